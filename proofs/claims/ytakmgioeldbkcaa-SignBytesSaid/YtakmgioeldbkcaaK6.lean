/- Texts of this claim, one behind the other. -/
import Derived.Test.YtakmgioeldbkcaaK5

/- Contracts: long division by the document (truceref02): how many digits; the loops' rounds. -/
namespace Go.Proofs.Ytakmgioeldbkcaa
open Go Go.RowKit
noncomputable def topX : EnvT Try.prog := { fis := [fi_truceref02_top] }
theorem top_tree (x : Nat) : (callT (topX) (execT (topX) 100) 130 [.ints .u64 8 (dg 8 x)] [] [] 0 []).map CR.v =
    (.ite ((((dgt x 7) : Nat) : Int) == (0 : Int))
     (.ite ((((dgt x 6) : Nat) : Int) == (0 : Int))
      (.ite ((((dgt x 5) : Nat) : Int) == (0 : Int))
       (.ite ((((dgt x 4) : Nat) : Int) == (0 : Int))
        (.ite ((((dgt x 3) : Nat) : Int) == (0 : Int))
         (.ite ((((dgt x 2) : Nat) : Int) == (0 : Int))
          (.ite ((((dgt x 1) : Nat) : Int) == (0 : Int))
           (.ite ((((dgt x 0) : Nat) : Int) == (0 : Int))
            (.leaf (.int .i64 (0 : Int)))
            (.leaf (.int .i64 (1 : Int))))
           (.leaf (.int .i64 (2 : Int))))
          (.leaf (.int .i64 (3 : Int))))
         (.leaf (.int .i64 (4 : Int))))
        (.leaf (.int .i64 (5 : Int))))
       (.leaf (.int .i64 (6 : Int))))
      (.leaf (.int .i64 (7 : Int))))
     (.leaf (.int .i64 (8 : Int)))) := by kernel_rfl
theorem top_ok (x : Nat) : Pure Try.prog 130 [.ints .u64 8 (dg 8 x)] (.int .i64 (nd x 8 : Nat)) := by
  refine Pure.by_tree mixed _ 100 _ _ (top_tree x) ?_
  simp only [T.holds, beq_iff_eq, Int.natCast_eq_zero, beq_eq_false_iff_ne, ne_eq]
  have key : ∀ n m : Nat, m = n → SameR (.int .i64 (n : Int)) (.int .i64 (m : Int)) := fun n m h => (SameV.int (by rw [h])).r
  refine ⟨fun h7 => ⟨fun h6 => ⟨fun h5 => ⟨fun h4 => ⟨fun h3 => ⟨fun h2 => ⟨fun h1 => ⟨fun h0 => key 0 _ (by simp [nd, *]), fun h => key 1 _ (by simp [nd, *])⟩, fun h => key 2 _ (by simp [nd, *])⟩, fun h => key 3 _ (by simp [nd, *])⟩,
    fun h => key 4 _ (by simp [nd, *])⟩, fun h => key 5 _ (by simp [nd, *])⟩, fun h => key 6 _ (by simp [nd, *])⟩, fun h => key 7 _ (by simp [nd, *])⟩, fun h => key 8 _ (by simp [nd, *])⟩
theorem dg_mod_n {n x : Nat} (h : x < b32 ^ n) : valI (dg n x) = x := by rw [valI_dg, Nat.mod_eq_of_lt h]
noncomputable def c_top : Ctr Try.prog := Ctr.of 130 (fun | [.ints .u64 8 l] => some ([l == dg 8 (valI l)], .int .i64 (nd (valI l) 8 : Nat)) | _ => none) (by
  intro args ob v h hob
  split at h <;> simp only [Option.some.injEq, Prod.mk.injEq, reduceCtorEq] at h
  rename_i l
  obtain ⟨rfl, rfl⟩ := h
  have h1 := eq_of_beq (hob (l == dg 8 (valI l)) (by simp))
  have := top_ok (valI l)
  rw [← h1] at this
  exact this)
noncomputable def rlX0 : EnvT Try.prog := { cs := [c_top], fis := [fi_truceref02_long], lcs := [LCT.bad 106 [0, 1, 0, 1, 0, 1, 0, 1, 1, 1, 1, 1], LCT.bad 106 [0, 0, 1, 1, 1, 1, 1, 1, 1]] }
noncomputable def rlX : EnvT Try.prog := { cs := [c_top], fis := [fi_truceref02_long] }
end Go.Proofs.Ytakmgioeldbkcaa

/- Contracts: long division by the document (truceref02.long): its first loops. -/
namespace Go.Proofs.Ytakmgioeldbkcaa
open Go Go.RowKit
noncomputable def rl1_st (x : Nat) (y : Nat) (n : Int) (v1 : Int) (v2 : Int) (v3 : List Int) : KS := ⟨⟨pat' [(2, (.ptr 0 [])), (3, (.ptr 1 [])), (4, (.ptr 2 [])), (5, (.ptr 3 [])), (6, (.ptr 4 [])), (7, (.ptr 5 [])), (8, (.int .i64 n)), (9, (.int .u64 v1)), (10, (.int .i64 v2))] 0 311, [(some ⟨78, (.ints .u64 16 (dg 16 x)), true⟩), (some ⟨79, (.ints .u64 8 (dg 8 y)), true⟩), (some ⟨78, (.ints .u64 16 (dg 16 0)), true⟩), (some ⟨79, (.ints .u64 8 (dg 8 0)), true⟩), (some ⟨78, (.ints .u64 16 v3), true⟩), (some ⟨79, (.ints .u64 8 (dg 8 0)), true⟩)], 6⟩, kpat [2, 3, 4, 5, 6, 7] 0 311, [false, false, true, true, false, true]⟩
theorem rl1_body (x : Nat) (y : Nat) (n : Int) (v1 : Int) (v2 : Int) (v3 : List Int) : stepT rlX0 100 fi_truceref02_long [0, 1, 0, 1, 0, 1, 0, 1, 1, 1, 1, 1] [2, 3, 4, 5, 6, 7, 8, 9, 10] 6 (kpat [2, 3, 4, 5, 6, 7] 0 311) [false, false, true, true, false, true] (rl1_st x y n v1 v2 v3) =
    (.ite (decide (v2 ≥ (0 : Int)))
     (.need ((decide ((0 : Int) ≤ v2)) && (decide (v2 < (16 : Int))))
     (.need (Nat.ble ((Int.toNat v2) + 1) 16)
     (.need (!(decide ((((dgt y 0) : Nat) : Int) = (0 : Int))))
     (.need ((decide ((0 : Int) ≤ v2)) && (decide (v2 < (16 : Int))))
     (.need (Nat.ble ((Int.toNat v2) + 1) 16)
     (.need (!(decide ((((dgt y 0) : Nat) : Int) = (0 : Int))))
     (.leaf (.normal, rl1_st x y n (Int.tmod (ior .u64 (ishl .u64 v1 (32 : Int)) (List.getD (dg 16 x) (Int.toNat v2) (0 : Int))) (((dgt y 0) : Nat) : Int)) (IntKind.wrap .i64 (v2 - (1 : Int))) (List.set v3 (Int.toNat v2) (IntKind.wrap .u64 (Int.tdiv (ior .u64 (ishl .u64 v1 (32 : Int)) (List.getD (dg 16 x) (Int.toNat v2) (0 : Int))) (((dgt y 0) : Nat) : Int))))))))))))
     (.leaf ((.exit 0), rl1_st x y n v1 v2 v3))) := by kernel_rfl
theorem rl1_rule {σ : Type} (st : σ → KS) (Inv : σ → Prop) (μ : σ → Nat) (R : Ex → St → Prop) (hH : ∀ v, (st v).s.H.length ≤ 6) (hstep : ∀ v, Inv v → ∃ X : EnvT Try.prog, (stepT X 100 fi_truceref02_long [0, 1, 0, 1, 0, 1, 0, 1, 1, 1, 1, 1] [2, 3, 4, 5, 6, 7, 8, 9, 10] 6 (kpat [2, 3, 4, 5, 6, 7] 0 311) [false, false, true, true, false, true] (st v)).holds (Round st Inv μ R v)) (v0 : σ) (h0 : Inv v0) : CodeR Try.prog (.loop (loopAt fi_truceref02_long [0, 1, 0, 1, 0, 1, 0, 1, 1, 1, 1, 1])) (st v0).s R :=
  loop_rule mixed fi_truceref02_long [0, 1, 0, 1, 0, 1, 0, 1, 1, 1, 1, 1] [2, 3, 4, 5, 6, 7, 8, 9, 10] 6 (kpat [2, 3, 4, 5, 6, 7] 0 311) [false, false, true, true, false, true] st 100 Inv μ R (loop_sub' (c := loopAt fi_truceref02_long [0, 1, 0, 1, 0, 1, 0, 1, 1, 1, 1, 1]) (by kernel_rfl)) hH hstep v0 h0
noncomputable def rl2_st (x : Nat) (y : Nat) (n : Int) (v1 : Int) : KS := ⟨⟨pat' [(2, (.ptr 0 [])), (3, (.ptr 1 [])), (4, (.ptr 2 [])), (5, (.ptr 3 [])), (6, (.ptr 4 [])), (7, (.ptr 5 [])), (8, (.int .i64 n)), (12, (.int .u64 v1))] 0 311, [(some ⟨78, (.ints .u64 16 (dg 16 x)), true⟩), (some ⟨79, (.ints .u64 8 (dg 8 y)), true⟩), (some ⟨78, (.ints .u64 16 (dg 16 0)), true⟩), (some ⟨79, (.ints .u64 8 (dg 8 0)), true⟩), (some ⟨78, (.ints .u64 16 (dg 16 0)), true⟩), (some ⟨79, (.ints .u64 8 (dg 8 0)), true⟩)], 6⟩, kpat [2, 3, 4, 5, 6, 7] 0 311, [false, false, true, true, true, true]⟩
theorem rl2_body (x : Nat) (y : Nat) (n : Int) (v1 : Int) : stepT rlX0 100 fi_truceref02_long [0, 0, 1, 1, 1, 1, 1, 1, 1] [2, 3, 4, 5, 6, 7, 8, 12] 6 (kpat [2, 3, 4, 5, 6, 7] 0 311) [false, false, true, true, true, true] (rl2_st x y n v1) =
    (.need ((decide ((0 : Int) ≤ (IntKind.wrap .i64 (n - (1 : Int))))) && (decide ((IntKind.wrap .i64 (n - (1 : Int))) < (8 : Int))))
    (.need (Nat.ble ((Int.toNat (IntKind.wrap .i64 (n - (1 : Int)))) + 1) 8)
    (.need (decide ((0 : Int) ≤ v1))
    (.ite ((iand .u64 (ishr .u64 (ishl .u64 (List.getD (dg 8 y) (Int.toNat (IntKind.wrap .i64 (n - (1 : Int)))) (0 : Int)) v1) (31 : Int)) (1 : Int)) == (0 : Int))
     (.leaf (.normal, rl2_st x y n (IntKind.wrap .u64 (v1 + (1 : Int)))))
     (.leaf ((.exit 2), rl2_st x y n v1)))))) := by kernel_rfl
theorem rl2_rule {σ : Type} (st : σ → KS) (Inv : σ → Prop) (μ : σ → Nat) (R : Ex → St → Prop) (hH : ∀ v, (st v).s.H.length ≤ 6) (hstep : ∀ v, Inv v → ∃ X : EnvT Try.prog, (stepT X 100 fi_truceref02_long [0, 0, 1, 1, 1, 1, 1, 1, 1] [2, 3, 4, 5, 6, 7, 8, 12] 6 (kpat [2, 3, 4, 5, 6, 7] 0 311) [false, false, true, true, true, true] (st v)).holds (Round st Inv μ R v)) (v0 : σ) (h0 : Inv v0) : CodeR Try.prog (.loop (loopAt fi_truceref02_long [0, 0, 1, 1, 1, 1, 1, 1, 1])) (st v0).s R :=
  loop_rule mixed fi_truceref02_long [0, 0, 1, 1, 1, 1, 1, 1, 1] [2, 3, 4, 5, 6, 7, 8, 12] 6 (kpat [2, 3, 4, 5, 6, 7] 0 311) [false, false, true, true, true, true] st 100 Inv μ R (loop_sub' (c := loopAt fi_truceref02_long [0, 0, 1, 1, 1, 1, 1, 1, 1]) (by kernel_rfl)) hH hstep v0 h0

theorem inN {i m : Nat} (h : i < m) : ((decide ((0 : Int) ≤ (i : Int))) && (decide ((i : Int) < (m : Int)))) = true := by simp; omega
theorem bleN {i m : Nat} (h : i < m) : (Nat.ble (i + 1) m) = true := by simp; omega
theorem rl1_loop (x y n : Nat) (hx : x < b32 ^ 16) (hd : 0 < dgt y 0) : CodeR Try.prog (.loop (loopAt fi_truceref02_long [0, 1, 0, 1, 0, 1, 0, 1, 1, 1, 1, 1])) (rl1_st x y n 0 15 (dg 16 0)).s
    (fun e s' => e = .exit 0 ∧ s' = (rl1_st x y n (x % dgt y 0 : Nat) (-1) (dg 16 (x / dgt y 0))).s) := by
  have hdb := dgt_lt y 0
  have hB : b32 = 4294967296 := rfl
  generalize hD : dgt y 0 = d at *
  refine CodeR.of_sim (rl1_rule (σ := Nat) (fun i => rl1_st x y n (shR x d i : Nat) ((i : Int) - 1) (dg 16 (b32 ^ i * (x / b32 ^ i / d)))) (fun i => i ≤ 16) (fun i => i) _ (fun _ => Nat.le_refl 6) ?_ 16 (by omega)) ?_
  · intro i hi
    refine ⟨rlX0, ?_⟩
    rw [rl1_body, hD]
    refine ⟨fun hc => ?_, fun hc => ?_⟩
    · obtain ⟨k, rfl⟩ : ∃ k, i = k + 1 := ⟨i - 1, by simp at hc; omega⟩
      have hk : k < 16 := by omega
      have hg := dgt_lt x k
      obtain ⟨n1, n2, n3⟩ := sh_step (x := x) (i := k) hd (by omega)
      have e0 : (((k + 1 : Nat) : Int) - 1) = (k : Int) := by omega
      have hr : shR x d (k + 1) < d := Nat.mod_lt _ hd
      have hr2 : shR x d (k + 1) < b32 := by omega
      have e1 : ior .u64 (ishl .u64 (shR x d (k + 1) : Nat) 32) (dgt x k : Nat) = ((shR x d (k + 1) * b32 + dgt x k : Nat) : Int) := by
        have hr3 : shR x d (k + 1) * 2 ^ 32 ≤ 4294967295 * 4294967296 := Nat.mul_le_mul (by omega) (by decide)
        have hg' : dgt x k < 2 ^ 32 := hg
        rw [show (32 : Int) = ((32 : Nat) : Int) from rfl, ishl_fit (by omega) (by omega), ior_nat (by omega) (by omega), or_shift hg']
        rfl
      have e4 : b32 ^ (k + 1) * (x / b32 ^ (k + 1) / d) = 0 + b32 ^ k * (0 + b32 * (x / b32 ^ (k + 1) / d)) := by
        rw [Nat.zero_add, Nat.zero_add, ← Nat.mul_assoc, ← Nat.pow_succ]
      have e5 : b32 ^ k * (x / b32 ^ k / d) = b32 ^ k * ((shR x d (k + 1) * b32 + dgt x k) / d + b32 * (x / b32 ^ (k + 1) / d)) := by
        have : shY x d k = x % b32 ^ k + b32 ^ k * (x / b32 ^ k / d) := rfl
        omega
      refine ⟨by rw [e0]; exact inN (m := 16) hk, by rw [e0, toNat_c]; exact bleN hk, by simp; omega, by rw [e0]; exact inN (m := 16) hk, by rw [e0, toNat_c]; exact bleN hk, by simp; omega, k, by omega, by dsimp only; omega, Sim.of_eq ?_⟩
      simp only [e0, toNat_c, dg_getD hk, e1, tdiv_nat, tmod_nat]
      rw [wrap_id (Nat.lt_trans n1 (by decide)), dg_set n1, e4, form_dset (b32_pos k) (by decide), Nat.zero_add, ← e5, ← n2, wrap_i64_in (by omega) (by omega)]
    · have hi : i = 0 := by simp at hc; omega
      subst hi
      refine ⟨rfl, ?_⟩
      rw [(sh_last x d).1]
      simp
  · have h1 : x / b32 ^ 16 = 0 := (Nat.div_eq_zero_iff_lt (b32_pos 16)).2 hx
    have h2 : shR x d 16 = 0 := by unfold shR; rw [h1]; simp
    rw [h2, h1, Nat.zero_div, Nat.mul_zero]
    exact Sim.refl _
theorem rl2_loop (x y n : Nat) (hn : 0 < n) (hn8 : n ≤ 8) (h0 : dgt y (n - 1) ≠ 0) : CodeR Try.prog (.loop (loopAt fi_truceref02_long [0, 0, 1, 1, 1, 1, 1, 1, 1])) (rl2_st x y n 0).s
    (fun e s' => e = .exit 2 ∧ s' = (rl2_st x y n (nsh (dgt y (n - 1)) : Nat)).s) := by
  have hd := dgt_lt y (n - 1)
  obtain ⟨p1, p2, p3⟩ := nsh_spec h0 hd
  have hk : nsh (dgt y (n - 1)) < 32 := by unfold nsh; omega
  refine rl2_rule (σ := Nat) (fun i => rl2_st x y n (i : Nat)) (fun i => i ≤ nsh (dgt y (n - 1))) (fun i => 32 - i) _ (fun _ => Nat.le_refl 6) ?_ 0 (by omega)
  intro i hi
  have e1 : IntKind.wrap .i64 ((n : Int) - 1) = ((n - 1 : Nat) : Int) := wrapi_sub (b := 1) (by omega) (by omega)
  have hB : b32 = 4294967296 := rfl
  have hlt : dgt y (n - 1) * 2 ^ i < b32 := by
    rcases Nat.lt_or_ge i (nsh (dgt y (n - 1))) with h | h
    · have := p3 i h; omega
    · have : i = nsh (dgt y (n - 1)) := by omega
      rw [this]; exact p1
  have e2 : iand .u64 (ishr .u64 (ishl .u64 ((dgt y (n - 1) : Nat) : Int) (i : Int)) 31) 1 = ((dgt y (n - 1) * 2 ^ i / 2147483648 : Nat) : Int) := by
    have e : dgt y (n - 1) * 2 ^ i / 2147483648 < 2 := by omega
    rw [ishl_fit (by omega) (by omega), show (31 : Int) = ((31 : Nat) : Int) from rfl, ishr_nat _ _ (by omega), show (1 : Int) = ((1 : Nat) : Int) from rfl, show (2 : Nat) ^ 31 = 2147483648 from rfl, iand_nat (by omega)]
    have : ∀ z : Nat, z < 2 → z &&& 1 = z := by intro z hz; rcases z with _ | _ | z; rfl; rfl; omega
    rw [this _ e]
  refine ⟨rlX0, ?_⟩
  rw [rl2_body]
  simp only [e1, toNat_c, dg_getD (show n - 1 < 8 by omega), e2]
  refine ⟨inN (m := 8) (by omega), bleN (by omega), by simp, fun hc => ?_, fun hc => ?_⟩
  · have hc' : dgt y (n - 1) * 2 ^ i < 2147483648 := by
      have : dgt y (n - 1) * 2 ^ i / 2147483648 = 0 := Int.natCast_eq_zero.1 (eq_of_beq hc)
      omega
    have : i ≠ nsh (dgt y (n - 1)) := by intro e; rw [e] at hc'; omega
    refine ⟨i + 1, by omega, by dsimp only; omega, Sim.of_eq ?_⟩
    rw [show (1 : Int) = ((1 : Nat) : Int) from rfl, wrap_add (by omega)]
  · have hc' : ¬ dgt y (n - 1) * 2 ^ i < 2147483648 := by
      have : dgt y (n - 1) * 2 ^ i / 2147483648 ≠ 0 := by
        intro h; rw [h] at hc; simp at hc
      omega
    have : i = nsh (dgt y (n - 1)) := by
      rcases Nat.lt_or_ge i (nsh (dgt y (n - 1))) with h | h
      · exact absurd (p3 i h) hc'
      · omega
    subst this
    exact ⟨rfl, rfl⟩
theorem rl1Sub : subC fi_truceref02_long.body [0, 1, 0, 1, 0, 1, 0, 1, 1, 1, 1, 1] = some (.loop (loopAt fi_truceref02_long [0, 1, 0, 1, 0, 1, 0, 1, 1, 1, 1, 1])) := loop_sub' (c := loopAt fi_truceref02_long [0, 1, 0, 1, 0, 1, 0, 1, 1, 1, 1, 1]) (by kernel_rfl)
theorem rl2Sub : subC fi_truceref02_long.body [0, 0, 1, 1, 1, 1, 1, 1, 1] = some (.loop (loopAt fi_truceref02_long [0, 0, 1, 1, 1, 1, 1, 1, 1])) := loop_sub' (c := loopAt fi_truceref02_long [0, 0, 1, 1, 1, 1, 1, 1, 1]) (by kernel_rfl)
noncomputable def rl1LC (x y n : Nat) (hx : x < b32 ^ 16) (hd : 0 < dgt y 0) : LCT Try.prog := LCT.one fi_truceref02_long [0, 1, 0, 1, 0, 1, 0, 1, 1, 1, 1, 1] _ _ _ rl1Sub (rl1_loop x y n hx hd)
noncomputable def rl2LC (x y n : Nat) (hn : 0 < n) (hn8 : n ≤ 8) (h0 : dgt y (n - 1) ≠ 0) : LCT Try.prog := LCT.one fi_truceref02_long [0, 0, 1, 1, 1, 1, 1, 1, 1] _ _ _ rl2Sub (rl2_loop x y n hn hn8 h0)
noncomputable def rlX2 (x y n : Nat) (hn : 0 < n) (hn8 : n ≤ 8) (h0 : dgt y (n - 1) ≠ 0) : EnvT Try.prog := { rlX with lcs := [LCT.bad 106 [0, 1, 0, 1, 0, 1, 0, 1, 1, 1, 1, 1], rl2LC x y n hn hn8 h0] }
end Go.Proofs.Ytakmgioeldbkcaa

/- Contracts: long division by the document (truceref02.long): shifted up. -/
namespace Go.Proofs.Ytakmgioeldbkcaa
open Go Go.RowKit
noncomputable def rl3_st (x : Nat) (y : Nat) (n s : Int) (v1 : Int) (v2 : List Int) : KS := ⟨⟨pat' [(2, (.ptr 0 [])), (3, (.ptr 1 [])), (4, (.ptr 2 [])), (5, (.ptr 3 [])), (6, (.ptr 4 [])), (7, (.ptr 5 [])), (8, (.int .i64 n)), (12, (.int .u64 s)), (13, (.ptr 6 [])), (14, (.int .i64 v1))] 0 311, [(some ⟨78, (.ints .u64 16 (dg 16 x)), true⟩), (some ⟨79, (.ints .u64 8 (dg 8 y)), true⟩), (some ⟨78, (.ints .u64 16 (dg 16 0)), true⟩), (some ⟨79, (.ints .u64 8 (dg 8 0)), true⟩), (some ⟨78, (.ints .u64 16 (dg 16 0)), true⟩), (some ⟨79, (.ints .u64 8 (dg 8 0)), true⟩), (some ⟨79, (.ints .u64 8 v2), true⟩)], 7⟩, kpat [2, 3, 4, 5, 6, 7, 13] 0 311, [false, false, true, true, true, true, false]⟩
theorem rl3_body (x : Nat) (y : Nat) (n s : Int) (v1 : Int) (v2 : List Int) : stepT rlX 100 fi_truceref02_long [0, 1, 0, 1, 1, 1, 1, 1, 1, 1, 1, 1] [2, 3, 4, 5, 6, 7, 8, 12, 13, 14] 7 (kpat [2, 3, 4, 5, 6, 7, 13] 0 311) [false, false, true, true, true, true, false] (rl3_st x y n s v1 v2) =
    (.ite (decide (v1 > (0 : Int)))
     (.need ((decide ((0 : Int) ≤ v1)) && (decide (v1 < (8 : Int))))
     (.need (Nat.ble ((Int.toNat v1) + 1) 8)
     (.need (decide ((0 : Int) ≤ s))
     (.need ((decide ((0 : Int) ≤ (IntKind.wrap .i64 (v1 - (1 : Int))))) && (decide ((IntKind.wrap .i64 (v1 - (1 : Int))) < (8 : Int))))
     (.need (Nat.ble ((Int.toNat (IntKind.wrap .i64 (v1 - (1 : Int)))) + 1) 8)
     (.need (decide ((0 : Int) ≤ s))
     (.need ((decide ((0 : Int) ≤ v1)) && (decide (v1 < (8 : Int))))
     (.need (Nat.ble ((Int.toNat v1) + 1) 8)
     (.leaf (.normal, rl3_st x y n s (IntKind.wrap .i64 (v1 - (1 : Int))) (List.set v2 (Int.toNat v1) (iand .u64 (ior .u64 (ishl .u64 (List.getD (dg 8 y) (Int.toNat v1) (0 : Int)) s) (ishr .u64 (ishl .u64 (List.getD (dg 8 y) (Int.toNat (IntKind.wrap .i64 (v1 - (1 : Int)))) (0 : Int)) s) (32 : Int))) (4294967295 : Int)))))))))))))
     (.leaf ((.exit 4), rl3_st x y n s v1 v2))) := by kernel_rfl
theorem rl3_rule {σ : Type} (st : σ → KS) (Inv : σ → Prop) (μ : σ → Nat) (R : Ex → St → Prop) (hH : ∀ v, (st v).s.H.length ≤ 7) (hstep : ∀ v, Inv v → ∃ X : EnvT Try.prog, (stepT X 100 fi_truceref02_long [0, 1, 0, 1, 1, 1, 1, 1, 1, 1, 1, 1] [2, 3, 4, 5, 6, 7, 8, 12, 13, 14] 7 (kpat [2, 3, 4, 5, 6, 7, 13] 0 311) [false, false, true, true, true, true, false] (st v)).holds (Round st Inv μ R v)) (v0 : σ) (h0 : Inv v0) : CodeR Try.prog (.loop (loopAt fi_truceref02_long [0, 1, 0, 1, 1, 1, 1, 1, 1, 1, 1, 1])) (st v0).s R :=
  loop_rule mixed fi_truceref02_long [0, 1, 0, 1, 1, 1, 1, 1, 1, 1, 1, 1] [2, 3, 4, 5, 6, 7, 8, 12, 13, 14] 7 (kpat [2, 3, 4, 5, 6, 7, 13] 0 311) [false, false, true, true, true, true, false] st 100 Inv μ R (loop_sub' (c := loopAt fi_truceref02_long [0, 1, 0, 1, 1, 1, 1, 1, 1, 1, 1, 1]) (by kernel_rfl)) hH hstep v0 h0

theorem up_dgt0 (x s i : Nat) : dgt (x * 2 ^ s) i = (upC x s i + dgt x i * 2 ^ s) % b32 := by
  have h := Nat.mod_add_div x (b32 ^ i)
  have e : x * 2 ^ s = x % b32 ^ i * 2 ^ s + b32 ^ i * (x / b32 ^ i * 2 ^ s) := by
    conv => lhs; rw [← h]
    rw [Nat.add_mul, Nat.mul_assoc]
  have e0 : dgt (x * 2 ^ s) i = x * 2 ^ s / b32 ^ i % b32 := rfl
  unfold upC
  rw [e0, e, Nat.add_mul_div_left _ _ (b32_pos i), div_next x i, Nat.add_mul, Nat.mul_assoc, ← Nat.add_assoc, Nat.add_mul_mod_self_left]
theorem upC_next {x s i : Nat} (hs : s < 32) : upC x s (i + 1) = dgt x i * 2 ^ s / b32 := by
  have hc := upC_lt x s i
  have h2 : 0 < 2 ^ s := Nat.pow_pos (by decide)
  have hb : b32 = 2 ^ s * 2 ^ (32 - s) := by rw [← Nat.pow_add, show s + (32 - s) = 32 by omega]; rfl
  rw [(up_next x s i).1, hb, ← Nat.div_div_eq_div_mul, ← Nat.div_div_eq_div_mul, Nat.add_mul_div_right _ _ h2, Nat.div_eq_of_lt hc, Nat.zero_add, Nat.mul_div_cancel _ h2]
theorem up_dgt {x s i : Nat} (hs : s < 32) : dgt (x * 2 ^ s) (i + 1) = (dgt x (i + 1) * 2 ^ s + dgt x i * 2 ^ s / b32) % b32 := by
  rw [up_dgt0, upC_next hs, Nat.add_comm]
theorem up_dgt1 (x s : Nat) : dgt (x * 2 ^ s) 0 = dgt x 0 * 2 ^ s % b32 := by
  rw [up_dgt0, (up_zero x s).1, Nat.zero_add]
theorem top_set (Z i : Nat) : dset (b32 ^ (i + 1) * (Z / b32 ^ (i + 1))) i (dgt Z i) = b32 ^ i * (Z / b32 ^ i) := by
  have e : b32 ^ (i + 1) * (Z / b32 ^ (i + 1)) = 0 + b32 ^ i * (0 + b32 * (Z / b32 ^ (i + 1))) := by
    rw [Nat.zero_add, Nat.zero_add, ← Nat.mul_assoc, ← Nat.pow_succ]
  rw [e, form_dset (b32_pos i) (by decide), Nat.zero_add, ← div_next]
theorem up2_math {d d1 s : Nat} (hs : s < 32) (hd : d < b32) (hd1 : d1 < b32) :
    iand .u64 (ior .u64 (ishl .u64 (d : Int) (s : Int)) (ishr .u64 (ishl .u64 (d1 : Int) (s : Int)) 32)) 4294967295 = (((d * 2 ^ s + d1 * 2 ^ s / b32) % b32 : Nat) : Int) := by
  have hB : b32 = 4294967296 := rfl
  have h31 := pow_lt32 hs
  have h2 : 0 < 2 ^ s := Nat.pow_pos (by decide)
  have l1 : d * 2 ^ s ≤ 4294967295 * 2147483648 := Nat.mul_le_mul (by omega) h31
  have l2 : d1 * 2 ^ s ≤ 4294967295 * 2147483648 := Nat.mul_le_mul (by omega) h31
  have l3 : d1 * 2 ^ s / 4294967296 < 2 ^ s := by
    rw [Nat.div_lt_iff_lt_mul (by decide), Nat.mul_comm]
    exact (Nat.mul_lt_mul_left h2).2 hd1
  rw [ishl_fit (by omega) (by omega), ishl_fit (by omega) (by omega), ishr_32, ior_nat (by omega) (by omega), or_shift l3, show (4294967295 : Int) = ((4294967295 : Nat) : Int) from rfl, iand_nat (by omega), and_low32]
  rfl
theorem rl3_loop (x y n s : Nat) (hn : 1 ≤ n) (hn8 : n ≤ 8) (hs : s < 32) (hY : y * 2 ^ s < b32 ^ n) : CodeR Try.prog (.loop (loopAt fi_truceref02_long [0, 1, 0, 1, 1, 1, 1, 1, 1, 1, 1, 1])) (rl3_st x y n s ((n - 1 : Nat) : Int) (dg 8 0)).s
    (fun e s' => e = .exit 4 ∧ s' = (rl3_st x y n s 0 (dg 8 (b32 * (y * 2 ^ s / b32)))).s) := by
  refine CodeR.of_sim (rl3_rule (σ := Nat) (fun i => rl3_st x y n s (i : Nat) (dg 8 (b32 ^ (i + 1) * (y * 2 ^ s / b32 ^ (i + 1))))) (fun i => i < n) (fun i => i) _ (fun _ => Nat.le_refl 7) ?_ (n - 1) (by omega)) ?_
  · intro i hi
    refine ⟨rlX, ?_⟩
    rw [rl3_body]
    refine ⟨fun hc => ?_, fun hc => ?_⟩
    · obtain ⟨k, rfl⟩ : ∃ k, i = k + 1 := ⟨i - 1, by simp at hc; omega⟩
      have e1 : IntKind.wrap .i64 (((k + 1 : Nat) : Int) - 1) = (k : Int) := wrapi_sub (a := k + 1) (b := 1) (by omega) (by omega)
      simp only [e1, toNat_c, dg_getD (show k + 1 < 8 by omega), dg_getD (show k < 8 by omega), up2_math hs (dgt_lt y (k + 1)) (dgt_lt y k)]
      refine ⟨inN (m := 8) (by omega), bleN (by omega), by simp, inN (m := 8) (by omega), bleN (by omega), by simp, inN (m := 8) (by omega), bleN (by omega), k, by omega, by dsimp only; omega, Sim.of_eq ?_⟩
      rw [← up_dgt hs, dg_set (dgt_lt _ _), top_set]
    · have hi : i = 0 := by simp at hc; omega
      subst hi
      refine ⟨rfl, ?_⟩
      rw [Nat.zero_add, Nat.pow_one]; rfl
  · rw [show n - 1 + 1 = n by omega, (Nat.div_eq_zero_iff_lt (b32_pos n)).2 hY, Nat.mul_zero]
    exact Sim.refl _
theorem rl3Sub : subC fi_truceref02_long.body [0, 1, 0, 1, 1, 1, 1, 1, 1, 1, 1, 1] = some (.loop (loopAt fi_truceref02_long [0, 1, 0, 1, 1, 1, 1, 1, 1, 1, 1, 1])) := loop_sub' (c := loopAt fi_truceref02_long [0, 1, 0, 1, 1, 1, 1, 1, 1, 1, 1, 1]) (by kernel_rfl)
noncomputable def rl3LC (x y n s : Nat) (hn : 1 ≤ n) (hn8 : n ≤ 8) (hs : s < 32) (hY : y * 2 ^ s < b32 ^ n) : LCT Try.prog := LCT.one fi_truceref02_long [0, 1, 0, 1, 1, 1, 1, 1, 1, 1, 1, 1] _ _ (rl3_st x y n s 0 (dg 8 (b32 * (y * 2 ^ s / b32)))) rl3Sub (rl3_loop x y n s hn hn8 hs hY)
noncomputable def rlX3 (x y n s : Nat) (hn : 0 < n) (hn8 : n ≤ 8) (h0 : dgt y (n - 1) ≠ 0) (hs : s < 32) (hY : y * 2 ^ s < b32 ^ n) : EnvT Try.prog :=
  { rlX with lcs := [LCT.bad 106 [0, 1, 0, 1, 0, 1, 0, 1, 1, 1, 1, 1], rl2LC x y n hn hn8 h0, rl3LC x y n s hn hn8 hs hY] }
end Go.Proofs.Ytakmgioeldbkcaa

/- Contracts: long division by the document (truceref02.long): shifted up, the other one. -/
namespace Go.Proofs.Ytakmgioeldbkcaa
open Go Go.RowKit
noncomputable def rl4_st (x : Nat) (y : Nat) (n : Nat) (s : Nat) (v : Nat) (v1 : Int) (v2 : List Int) : KS := ⟨⟨pat' [(2, (.ptr 0 [])), (4, (.ptr 2 [])), (5, (.ptr 3 [])), (6, (.ptr 4 [])), (7, (.ptr 5 [])), (8, (.int .i64 ((n : Nat) : Int))), (12, (.int .u64 ((s : Nat) : Int))), (13, (.ptr 6 [])), (15, (.ptr 14 [])), (16, (.int .i64 v1))] 0 311, [(some ⟨78, (.ints .u64 16 (dg 16 x)), true⟩), (some ⟨79, (.ints .u64 8 (dg 8 y)), true⟩), (some ⟨78, (.ints .u64 16 (dg 16 0)), true⟩), (some ⟨79, (.ints .u64 8 (dg 8 0)), true⟩), (some ⟨78, (.ints .u64 16 (dg 16 0)), true⟩), (some ⟨79, (.ints .u64 8 (dg 8 0)), true⟩), (some ⟨79, (.ints .u64 8 (dg 8 v)), true⟩), none, none, none, none, none, none, none, (some ⟨72, (.ints .u64 17 v2), true⟩)], 15⟩, kpat [2, 4, 5, 6, 7, 13, 15] 0 311, [false, false, true, true, true, true, false, false, false, false, false, false, false, false, false]⟩
theorem rl4_body (x : Nat) (y : Nat) (n : Nat) (s : Nat) (v : Nat) (v1 : Int) (v2 : List Int) : stepT rlX 100 fi_truceref02_long [0, 1, 0, 1, 1, 1, 1, 1, 1, 1, 1, 1, 1, 1, 1, 1] [2, 4, 5, 6, 7, 8, 12, 13, 15, 16] 15 (kpat [2, 4, 5, 6, 7, 13, 15] 0 311) [false, false, true, true, true, true, false, false, false, false, false, false, false, false, false] (rl4_st x y n s v v1 v2) =
    (.ite (decide (v1 > (0 : Int)))
     (.need ((decide ((0 : Int) ≤ v1)) && (decide (v1 < (16 : Int))))
     (.need (Nat.ble ((Int.toNat v1) + 1) 16)
     (.need (decide ((0 : Int) ≤ ((s : Nat) : Int)))
     (.need ((decide ((0 : Int) ≤ (IntKind.wrap .i64 (v1 - (1 : Int))))) && (decide ((IntKind.wrap .i64 (v1 - (1 : Int))) < (16 : Int))))
     (.need (Nat.ble ((Int.toNat (IntKind.wrap .i64 (v1 - (1 : Int)))) + 1) 16)
     (.need (decide ((0 : Int) ≤ ((s : Nat) : Int)))
     (.need ((decide ((0 : Int) ≤ v1)) && (decide (v1 < (17 : Int))))
     (.need (Nat.ble ((Int.toNat v1) + 1) 17)
     (.leaf (.normal, rl4_st x y n s v (IntKind.wrap .i64 (v1 - (1 : Int))) (List.set v2 (Int.toNat v1) (iand .u64 (ior .u64 (ishl .u64 (List.getD (dg 16 x) (Int.toNat v1) (0 : Int)) ((s : Nat) : Int)) (ishr .u64 (ishl .u64 (List.getD (dg 16 x) (Int.toNat (IntKind.wrap .i64 (v1 - (1 : Int)))) (0 : Int)) ((s : Nat) : Int)) (32 : Int))) (4294967295 : Int)))))))))))))
     (.leaf ((.exit 6), rl4_st x y n s v v1 v2))) := by kernel_rfl
theorem rl4_rule {σ : Type} (st : σ → KS) (Inv : σ → Prop) (μ : σ → Nat) (R : Ex → St → Prop) (hH : ∀ v, (st v).s.H.length ≤ 15) (hstep : ∀ v, Inv v → ∃ X : EnvT Try.prog, (stepT X 100 fi_truceref02_long [0, 1, 0, 1, 1, 1, 1, 1, 1, 1, 1, 1, 1, 1, 1, 1] [2, 4, 5, 6, 7, 8, 12, 13, 15, 16] 15 (kpat [2, 4, 5, 6, 7, 13, 15] 0 311) [false, false, true, true, true, true, false, false, false, false, false, false, false, false, false] (st v)).holds (Round st Inv μ R v)) (v0 : σ) (h0 : Inv v0) : CodeR Try.prog (.loop (loopAt fi_truceref02_long [0, 1, 0, 1, 1, 1, 1, 1, 1, 1, 1, 1, 1, 1, 1, 1])) (st v0).s R :=
  loop_rule mixed fi_truceref02_long [0, 1, 0, 1, 1, 1, 1, 1, 1, 1, 1, 1, 1, 1, 1, 1] [2, 4, 5, 6, 7, 8, 12, 13, 15, 16] 15 (kpat [2, 4, 5, 6, 7, 13, 15] 0 311) [false, false, true, true, true, true, false, false, false, false, false, false, false, false, false] st 100 Inv μ R (loop_sub' (c := loopAt fi_truceref02_long [0, 1, 0, 1, 1, 1, 1, 1, 1, 1, 1, 1, 1, 1, 1, 1]) (by kernel_rfl)) hH hstep v0 h0

theorem rl4_loop (x y n s v : Nat) (hs : s < 32) : CodeR Try.prog (.loop (loopAt fi_truceref02_long [0, 1, 0, 1, 1, 1, 1, 1, 1, 1, 1, 1, 1, 1, 1, 1])) (rl4_st x y n s v 15 (dg 17 (b32 ^ 16 * (x * 2 ^ s / b32 ^ 16)))).s
    (fun e s' => e = .exit 6 ∧ s' = (rl4_st x y n s v 0 (dg 17 (b32 * (x * 2 ^ s / b32)))).s) := by
  refine rl4_rule (σ := Nat) (fun i => rl4_st x y n s v (i : Nat) (dg 17 (b32 ^ (i + 1) * (x * 2 ^ s / b32 ^ (i + 1))))) (fun i => i < 16) (fun i => i) _ (fun _ => Nat.le_refl 15) ?_ 15 (by omega)
  intro i hi
  refine ⟨rlX, ?_⟩
  rw [rl4_body]
  refine ⟨fun hc => ?_, fun hc => ?_⟩
  · obtain ⟨k, rfl⟩ : ∃ k, i = k + 1 := ⟨i - 1, by simp at hc; omega⟩
    have e1 : IntKind.wrap .i64 (((k + 1 : Nat) : Int) - 1) = (k : Int) := wrapi_sub (a := k + 1) (b := 1) (by omega) (by omega)
    simp only [e1, toNat_c, dg_getD (show k + 1 < 16 by omega), dg_getD (show k < 16 by omega), up2_math hs (dgt_lt x (k + 1)) (dgt_lt x k)]
    refine ⟨inN (m := 16) (by omega), bleN (by omega), by simp, inN (m := 16) (by omega), bleN (by omega), by simp, inN (m := 17) (by omega), bleN (by omega), k, by omega, by dsimp only; omega, Sim.of_eq ?_⟩
    rw [← up_dgt hs, dg_set (dgt_lt _ _), top_set]
  · have hi : i = 0 := by simp at hc; omega
    subst hi
    refine ⟨rfl, ?_⟩
    rw [Nat.zero_add, Nat.pow_one]; rfl
theorem rl4Sub : subC fi_truceref02_long.body [0, 1, 0, 1, 1, 1, 1, 1, 1, 1, 1, 1, 1, 1, 1, 1] = some (.loop (loopAt fi_truceref02_long [0, 1, 0, 1, 1, 1, 1, 1, 1, 1, 1, 1, 1, 1, 1, 1])) := loop_sub' (c := loopAt fi_truceref02_long [0, 1, 0, 1, 1, 1, 1, 1, 1, 1, 1, 1, 1, 1, 1, 1]) (by kernel_rfl)
noncomputable def rl4LC (x y n s v : Nat) (hs : s < 32) : LCT Try.prog := LCT.one fi_truceref02_long [0, 1, 0, 1, 1, 1, 1, 1, 1, 1, 1, 1, 1, 1, 1, 1] _ _ (rl4_st x y n s v 0 (dg 17 (b32 * (x * 2 ^ s / b32)))) rl4Sub (rl4_loop x y n s v hs)
noncomputable def rlX4 (x y n s v : Nat) (hn : 0 < n) (hn8 : n ≤ 8) (h0 : dgt y (n - 1) ≠ 0) (hs : s < 32) (hY : y * 2 ^ s < b32 ^ n) : EnvT Try.prog :=
  { rlX with lcs := [LCT.bad 106 [0, 1, 0, 1, 0, 1, 0, 1, 1, 1, 1, 1], rl2LC x y n hn hn8 h0, rl3LC x y n s hn hn8 hs hY, rl4LC x y n s v hs] }
end Go.Proofs.Ytakmgioeldbkcaa

/- Contracts: long division by the document (truceref02.long): the main loop's state. -/
namespace Go.Proofs.Ytakmgioeldbkcaa
open Go Go.RowKit
noncomputable def rl5_st (x : Nat) (y : Nat) (n : Nat) (s : Nat) (v : Nat) (u q : List Int) (a : Int) : KS := ⟨⟨pat' [(4, (.ptr 2 [])), (5, (.ptr 3 [])), (6, (.ptr 4 [])), (7, (.ptr 5 [])), (8, (.int .i64 ((n : Nat) : Int))), (12, (.int .u64 ((s : Nat) : Int))), (13, (.ptr 6 [])), (15, (.ptr 14 [])), (17, (.int .i64 a))] 0 311, [(some ⟨78, (.ints .u64 16 (dg 16 x)), true⟩), (some ⟨79, (.ints .u64 8 (dg 8 y)), true⟩), (some ⟨78, (.ints .u64 16 (dg 16 0)), true⟩), (some ⟨79, (.ints .u64 8 (dg 8 0)), true⟩), (some ⟨78, (.ints .u64 16 q), true⟩), (some ⟨79, (.ints .u64 8 (dg 8 0)), true⟩), (some ⟨79, (.ints .u64 8 (dg 8 v)), true⟩), none, none, none, none, none, none, none, (some ⟨72, (.ints .u64 17 u), true⟩)], 15⟩, kpat [4, 5, 6, 7, 13, 15] 0 311, [false, false, true, true, true, true, false, false, false, false, false, false, false, false, false]⟩
noncomputable def rg_st (x : Nat) (y : Nat) (n : Nat) (s : Nat) (v : Nat) (u q : List Int) (a : Int) (g r : Int) : KS := ⟨⟨pat' [(4, (.ptr 2 [])), (5, (.ptr 3 [])), (6, (.ptr 4 [])), (7, (.ptr 5 [])), (8, (.int .i64 ((n : Nat) : Int))), (12, (.int .u64 ((s : Nat) : Int))), (13, (.ptr 6 [])), (15, (.ptr 14 [])), (17, (.int .i64 a)), (19, (.int .u64 g)), (20, (.int .u64 r))] 0 311, [(some ⟨78, (.ints .u64 16 (dg 16 x)), true⟩), (some ⟨79, (.ints .u64 8 (dg 8 y)), true⟩), (some ⟨78, (.ints .u64 16 (dg 16 0)), true⟩), (some ⟨79, (.ints .u64 8 (dg 8 0)), true⟩), (some ⟨78, (.ints .u64 16 q), true⟩), (some ⟨79, (.ints .u64 8 (dg 8 0)), true⟩), (some ⟨79, (.ints .u64 8 (dg 8 v)), true⟩), none, none, none, none, none, none, none, (some ⟨72, (.ints .u64 17 u), true⟩)], 15⟩, kpat [4, 5, 6, 7, 13, 15] 0 311, [false, false, true, true, true, true, false, false, false, false, false, false, false, false, false]⟩
noncomputable def rm_st (x : Nat) (y : Nat) (n : Nat) (s : Nat) (v : Nat) (u q : List Int) (a : Int) (g bo c i : Int) : KS := ⟨⟨pat' [(4, (.ptr 2 [])), (5, (.ptr 3 [])), (6, (.ptr 4 [])), (7, (.ptr 5 [])), (8, (.int .i64 ((n : Nat) : Int))), (12, (.int .u64 ((s : Nat) : Int))), (13, (.ptr 6 [])), (15, (.ptr 14 [])), (17, (.int .i64 a)), (19, (.int .u64 g)), (21, (.int .u64 bo)), (22, (.int .u64 c)), (23, (.int .i64 i))] 0 311, [(some ⟨78, (.ints .u64 16 (dg 16 x)), true⟩), (some ⟨79, (.ints .u64 8 (dg 8 y)), true⟩), (some ⟨78, (.ints .u64 16 (dg 16 0)), true⟩), (some ⟨79, (.ints .u64 8 (dg 8 0)), true⟩), (some ⟨78, (.ints .u64 16 q), true⟩), (some ⟨79, (.ints .u64 8 (dg 8 0)), true⟩), (some ⟨79, (.ints .u64 8 (dg 8 v)), true⟩), none, none, none, none, none, none, none, (some ⟨72, (.ints .u64 17 u), true⟩)], 15⟩, kpat [4, 5, 6, 7, 13, 15] 0 311, [false, false, true, true, true, true, false, false, false, false, false, false, false, false, false]⟩
noncomputable def ra_st (x : Nat) (y : Nat) (n : Nat) (s : Nat) (v : Nat) (u q : List Int) (a : Int) (g c i : Int) : KS := ⟨⟨pat' [(4, (.ptr 2 [])), (5, (.ptr 3 [])), (6, (.ptr 4 [])), (7, (.ptr 5 [])), (8, (.int .i64 ((n : Nat) : Int))), (12, (.int .u64 ((s : Nat) : Int))), (13, (.ptr 6 [])), (15, (.ptr 14 [])), (17, (.int .i64 a)), (19, (.int .u64 g)), (22, (.int .u64 c)), (27, (.int .i64 i))] 0 311, [(some ⟨78, (.ints .u64 16 (dg 16 x)), true⟩), (some ⟨79, (.ints .u64 8 (dg 8 y)), true⟩), (some ⟨78, (.ints .u64 16 (dg 16 0)), true⟩), (some ⟨79, (.ints .u64 8 (dg 8 0)), true⟩), (some ⟨78, (.ints .u64 16 q), true⟩), (some ⟨79, (.ints .u64 8 (dg 8 0)), true⟩), (some ⟨79, (.ints .u64 8 (dg 8 v)), true⟩), none, none, none, none, none, none, none, (some ⟨72, (.ints .u64 17 u), true⟩)], 15⟩, kpat [4, 5, 6, 7, 13, 15] 0 311, [false, false, true, true, true, true, false, false, false, false, false, false, false, false, false]⟩
end Go.Proofs.Ytakmgioeldbkcaa

/- Contracts: long division by the document (truceref02.long): the rounds of the inner loops. -/
namespace Go.Proofs.Ytakmgioeldbkcaa
open Go Go.RowKit
theorem rg_body (x : Nat) (y : Nat) (n : Nat) (s : Nat) (v : Nat) (u : Nat) (q : Nat) (a : Int) (g : Int) (r : Int) : stepT rlX 100 fi_truceref02_long [0, 0, 1, 1, 1, 0, 0, 1, 0, 0, 1, 0, 1, 1, 1, 1, 1, 1, 1, 1, 1, 1, 1, 1, 1, 1, 1] [4, 5, 6, 7, 8, 12, 13, 15, 17, 19, 20] 15 (kpat [4, 5, 6, 7, 13, 15] 0 311) [false, false, true, true, true, true, false, false, false, false, false, false, false, false, false] (rg_st x y n s v (dg 17 u) (dg 16 q) a g r) =
    (.ite (decide (g > (4294967295 : Int)))
     (.need ((decide ((0 : Int) ≤ (IntKind.wrap .i64 (((n : Nat) : Int) - (1 : Int))))) && (decide ((IntKind.wrap .i64 (((n : Nat) : Int) - (1 : Int))) < (8 : Int))))
     (.need (Nat.ble ((Int.toNat (IntKind.wrap .i64 (((n : Nat) : Int) - (1 : Int)))) + 1) 8)
     (.ite (decide ((IntKind.wrap .u64 (r + (List.getD (dg 8 v) (Int.toNat (IntKind.wrap .i64 (((n : Nat) : Int) - (1 : Int)))) (0 : Int)))) > (4294967295 : Int)))
      (.leaf ((.exit 10), rg_st x y n s v (dg 17 u) (dg 16 q) a (IntKind.wrap .u64 (g - (1 : Int))) (IntKind.wrap .u64 (r + (List.getD (dg 8 v) (Int.toNat (IntKind.wrap .i64 (((n : Nat) : Int) - (1 : Int)))) (0 : Int))))))
      (.leaf (.normal, rg_st x y n s v (dg 17 u) (dg 16 q) a (IntKind.wrap .u64 (g - (1 : Int))) (IntKind.wrap .u64 (r + (List.getD (dg 8 v) (Int.toNat (IntKind.wrap .i64 (((n : Nat) : Int) - (1 : Int)))) (0 : Int)))))))))
     (.need ((decide ((0 : Int) ≤ (IntKind.wrap .i64 (((n : Nat) : Int) - (2 : Int))))) && (decide ((IntKind.wrap .i64 (((n : Nat) : Int) - (2 : Int))) < (8 : Int))))
     (.need (Nat.ble ((Int.toNat (IntKind.wrap .i64 (((n : Nat) : Int) - (2 : Int)))) + 1) 8)
     (.need ((decide ((0 : Int) ≤ (IntKind.wrap .i64 ((IntKind.wrap .i64 (a + ((n : Nat) : Int))) - (2 : Int))))) && (decide ((IntKind.wrap .i64 ((IntKind.wrap .i64 (a + ((n : Nat) : Int))) - (2 : Int))) < (17 : Int))))
     (.need (Nat.ble ((Int.toNat (IntKind.wrap .i64 ((IntKind.wrap .i64 (a + ((n : Nat) : Int))) - (2 : Int)))) + 1) 17)
     (.ite (decide ((IntKind.wrap .u64 (g * (List.getD (dg 8 v) (Int.toNat (IntKind.wrap .i64 (((n : Nat) : Int) - (2 : Int)))) (0 : Int)))) > (ior .u64 (ishl .u64 r (32 : Int)) (List.getD (dg 17 u) (Int.toNat (IntKind.wrap .i64 ((IntKind.wrap .i64 (a + ((n : Nat) : Int))) - (2 : Int)))) (0 : Int)))))
      (.need ((decide ((0 : Int) ≤ (IntKind.wrap .i64 (((n : Nat) : Int) - (1 : Int))))) && (decide ((IntKind.wrap .i64 (((n : Nat) : Int) - (1 : Int))) < (8 : Int))))
      (.need (Nat.ble ((Int.toNat (IntKind.wrap .i64 (((n : Nat) : Int) - (1 : Int)))) + 1) 8)
      (.ite (decide ((IntKind.wrap .u64 (r + (List.getD (dg 8 v) (Int.toNat (IntKind.wrap .i64 (((n : Nat) : Int) - (1 : Int)))) (0 : Int)))) > (4294967295 : Int)))
       (.leaf ((.exit 10), rg_st x y n s v (dg 17 u) (dg 16 q) a (IntKind.wrap .u64 (g - (1 : Int))) (IntKind.wrap .u64 (r + (List.getD (dg 8 v) (Int.toNat (IntKind.wrap .i64 (((n : Nat) : Int) - (1 : Int)))) (0 : Int))))))
       (.leaf (.normal, rg_st x y n s v (dg 17 u) (dg 16 q) a (IntKind.wrap .u64 (g - (1 : Int))) (IntKind.wrap .u64 (r + (List.getD (dg 8 v) (Int.toNat (IntKind.wrap .i64 (((n : Nat) : Int) - (1 : Int)))) (0 : Int)))))))))
      (.leaf ((.exit 10), rg_st x y n s v (dg 17 u) (dg 16 q) a g r)))))))) := by kernel_rfl
theorem rm_body (x : Nat) (y : Nat) (n : Nat) (s : Nat) (v : Nat) (u : Nat) (q : Nat) (a : Int) (g : Int) (bo : Int) (c : Int) (i : Int) : stepT rlX 100 fi_truceref02_long [0, 1, 0, 1, 1, 1, 1, 1, 1, 0, 0, 1, 0, 0, 1, 0, 1, 1, 1, 1, 1, 1, 1, 1, 1, 1, 1, 1, 1, 1, 1] [4, 5, 6, 7, 8, 12, 13, 15, 17, 19, 21, 22, 23] 15 (kpat [4, 5, 6, 7, 13, 15] 0 311) [false, false, true, true, true, true, false, false, false, false, false, false, false, false, false] (rm_st x y n s v (dg 17 u) (dg 16 q) a g bo c i) =
    (.ite (decide (i < ((n : Nat) : Int)))
     (.need ((decide ((0 : Int) ≤ i)) && (decide (i < (8 : Int))))
     (.need (Nat.ble ((Int.toNat i) + 1) 8)
     (.need ((decide ((0 : Int) ≤ (IntKind.wrap .i64 (i + a)))) && (decide ((IntKind.wrap .i64 (i + a)) < (17 : Int))))
     (.need (Nat.ble ((Int.toNat (IntKind.wrap .i64 (i + a))) + 1) 17)
     (.need ((decide ((0 : Int) ≤ (IntKind.wrap .i64 (i + a)))) && (decide ((IntKind.wrap .i64 (i + a)) < (17 : Int))))
     (.need (Nat.ble ((Int.toNat (IntKind.wrap .i64 (i + a))) + 1) 17)
     (.leaf (.normal, rm_st x y n s v (List.set (dg 17 u) (Int.toNat (IntKind.wrap .i64 (i + a))) (iand .u64 (IntKind.wrap .u64 ((IntKind.wrap .u64 ((IntKind.wrap .u64 ((List.getD (dg 17 u) (Int.toNat (IntKind.wrap .i64 (i + a))) (0 : Int)) + (4294967296 : Int))) - (iand .u64 (IntKind.wrap .u64 ((IntKind.wrap .u64 (g * (List.getD (dg 8 v) (Int.toNat i) (0 : Int)))) + c)) (4294967295 : Int)))) - bo)) (4294967295 : Int))) (dg 16 q) a g (IntKind.wrap .u64 ((1 : Int) - (ishr .u64 (IntKind.wrap .u64 ((IntKind.wrap .u64 ((IntKind.wrap .u64 ((List.getD (dg 17 u) (Int.toNat (IntKind.wrap .i64 (i + a))) (0 : Int)) + (4294967296 : Int))) - (iand .u64 (IntKind.wrap .u64 ((IntKind.wrap .u64 (g * (List.getD (dg 8 v) (Int.toNat i) (0 : Int)))) + c)) (4294967295 : Int)))) - bo)) (32 : Int)))) (ishr .u64 (IntKind.wrap .u64 ((IntKind.wrap .u64 (g * (List.getD (dg 8 v) (Int.toNat i) (0 : Int)))) + c)) (32 : Int)) (IntKind.wrap .i64 (i + (1 : Int)))))))))))
     (.leaf ((.exit 12), rm_st x y n s v (dg 17 u) (dg 16 q) a g bo c i))) := by kernel_rfl
theorem ra_body (x : Nat) (y : Nat) (n : Nat) (s : Nat) (v : Nat) (u : Nat) (q : Nat) (a : Int) (g : Int) (c : Int) (i : Int) : stepT rlX 100 fi_truceref02_long [0, 1, 0, 1, 1, 0, 1, 0, 1, 1, 1, 1, 1, 1, 1, 1, 1, 0, 0, 1, 0, 0, 1, 0, 1, 1, 1, 1, 1, 1, 1, 1, 1, 1, 1, 1, 1, 1, 1] [4, 5, 6, 7, 8, 12, 13, 15, 17, 19, 22, 27] 15 (kpat [4, 5, 6, 7, 13, 15] 0 311) [false, false, true, true, true, true, false, false, false, false, false, false, false, false, false] (ra_st x y n s v (dg 17 u) (dg 16 q) a g c i) =
    (.ite (decide (i < ((n : Nat) : Int)))
     (.need ((decide ((0 : Int) ≤ (IntKind.wrap .i64 (i + a)))) && (decide ((IntKind.wrap .i64 (i + a)) < (17 : Int))))
     (.need (Nat.ble ((Int.toNat (IntKind.wrap .i64 (i + a))) + 1) 17)
     (.need ((decide ((0 : Int) ≤ i)) && (decide (i < (8 : Int))))
     (.need (Nat.ble ((Int.toNat i) + 1) 8)
     (.need ((decide ((0 : Int) ≤ (IntKind.wrap .i64 (i + a)))) && (decide ((IntKind.wrap .i64 (i + a)) < (17 : Int))))
     (.need (Nat.ble ((Int.toNat (IntKind.wrap .i64 (i + a))) + 1) 17)
     (.leaf (.normal, ra_st x y n s v (List.set (dg 17 u) (Int.toNat (IntKind.wrap .i64 (i + a))) (iand .u64 (IntKind.wrap .u64 ((IntKind.wrap .u64 ((List.getD (dg 17 u) (Int.toNat (IntKind.wrap .i64 (i + a))) (0 : Int)) + (List.getD (dg 8 v) (Int.toNat i) (0 : Int)))) + c)) (4294967295 : Int))) (dg 16 q) a g (ishr .u64 (IntKind.wrap .u64 ((IntKind.wrap .u64 ((List.getD (dg 17 u) (Int.toNat (IntKind.wrap .i64 (i + a))) (0 : Int)) + (List.getD (dg 8 v) (Int.toNat i) (0 : Int)))) + c)) (32 : Int)) (IntKind.wrap .i64 (i + (1 : Int)))))))))))
     (.leaf ((.exit 14), ra_st x y n s v (dg 17 u) (dg 16 q) a g c i))) := by kernel_rfl
end Go.Proofs.Ytakmgioeldbkcaa

/- Contracts: long division by the document (truceref02.long): the guess. -/
namespace Go.Proofs.Ytakmgioeldbkcaa
open Go Go.RowKit
theorem rg_rule {σ : Type} (st : σ → KS) (Inv : σ → Prop) (μ : σ → Nat) (R : Ex → St → Prop) (hH : ∀ v, (st v).s.H.length ≤ 15) (hstep : ∀ v, Inv v → ∃ X : EnvT Try.prog, (stepT X 100 fi_truceref02_long [0, 0, 1, 1, 1, 0, 0, 1, 0, 0, 1, 0, 1, 1, 1, 1, 1, 1, 1, 1, 1, 1, 1, 1, 1, 1, 1] [4, 5, 6, 7, 8, 12, 13, 15, 17, 19, 20] 15 (kpat [4, 5, 6, 7, 13, 15] 0 311) [false, false, true, true, true, true, false, false, false, false, false, false, false, false, false] (st v)).holds (Round st Inv μ R v)) (v0 : σ) (h0 : Inv v0) : CodeR Try.prog (.loop (loopAt fi_truceref02_long [0, 0, 1, 1, 1, 0, 0, 1, 0, 0, 1, 0, 1, 1, 1, 1, 1, 1, 1, 1, 1, 1, 1, 1, 1, 1, 1])) (st v0).s R :=
  loop_rule mixed fi_truceref02_long [0, 0, 1, 1, 1, 0, 0, 1, 0, 0, 1, 0, 1, 1, 1, 1, 1, 1, 1, 1, 1, 1, 1, 1, 1, 1, 1] [4, 5, 6, 7, 8, 12, 13, 15, 17, 19, 20] 15 (kpat [4, 5, 6, 7, 13, 15] 0 311) [false, false, true, true, true, true, false, false, false, false, false, false, false, false, false] st 100 Inv μ R (loop_sub' (c := loopAt fi_truceref02_long [0, 0, 1, 1, 1, 0, 0, 1, 0, 0, 1, 0, 1, 1, 1, 1, 1, 1, 1, 1, 1, 1, 1, 1, 1, 1, 1]) (by kernel_rfl)) hH hstep v0 h0
theorem rgSub : subC fi_truceref02_long.body [0, 0, 1, 1, 1, 0, 0, 1, 0, 0, 1, 0, 1, 1, 1, 1, 1, 1, 1, 1, 1, 1, 1, 1, 1, 1, 1] = some (.loop (loopAt fi_truceref02_long [0, 0, 1, 1, 1, 0, 0, 1, 0, 0, 1, 0, 1, 1, 1, 1, 1, 1, 1, 1, 1, 1, 1, 1, 1, 1, 1])) := loop_sub' (c := loopAt fi_truceref02_long [0, 0, 1, 1, 1, 0, 0, 1, 0, 0, 1, 0, 1, 1, 1, 1, 1, 1, 1, 1, 1, 1, 1, 1, 1, 1, 1]) (by kernel_rfl)
theorem rg_loop (x y n s v u q a g0 l0 : Nat) (hn : 2 ≤ n) (hn8 : n ≤ 8) (han : a + n < 17) (hv : 0 < dgt v (n - 1)) (hg0 : g0 ≤ b32 + 1) (hl0 : l0 < b32) :
    CodeR Try.prog (.loop (loopAt fi_truceref02_long [0, 0, 1, 1, 1, 0, 0, 1, 0, 0, 1, 0, 1, 1, 1, 1, 1, 1, 1, 1, 1, 1, 1, 1, 1, 1, 1])) (rg_st x y n s v (dg 17 u) (dg 16 q) a g0 l0).s
    (fun e s' => e = .exit 10 ∧ s' = (rg_st x y n s v (dg 17 u) (dg 16 q) a (gG (dgt v (n - 1)) (dgt v (n - 2)) (dgt u (a + n - 2)) g0 l0 : Nat) (gL (dgt v (n - 1)) (dgt v (n - 2)) (dgt u (a + n - 2)) g0 l0 : Nat)).s) := by
  unfold gG gL
  generalize hf : gz (dgt v (n - 1)) (dgt v (n - 2)) (dgt u (a + n - 2)) b32 g0 l0 = fin
  refine rg_rule (σ := Nat × Nat × Nat) (fun z => rg_st x y n s v (dg 17 u) (dg 16 q) a (z.2.1 : Nat) (z.2.2 : Nat)) (fun z => z.2.2 < b32 ∧ z.2.1 ≤ b32 + 1 ∧ gz (dgt v (n - 1)) (dgt v (n - 2)) (dgt u (a + n - 2)) z.1 z.2.1 z.2.2 = fin ∧ b32 ≤ z.1 * dgt v (n - 1) + z.2.2)
    (fun z => z.1) _ (fun _ => Nat.le_refl 15) ?_ (b32, g0, l0) ⟨hl0, hg0, hf, ?_⟩
  · rintro ⟨k, g, l⟩ ⟨h1, h2, h3, h4⟩
    simp only at h1 h2 h3 h4 ⊢
    have hB : b32 = 4294967296 := rfl
    have d1 := dgt_lt v (n - 1)
    have d2 := dgt_lt v (n - 2)
    have d3 := dgt_lt u (a + n - 2)
    have e1 : IntKind.wrap .i64 ((n : Int) - 1) = ((n - 1 : Nat) : Int) := wrapi_sub (b := 1) (by omega) (by omega)
    have e2 : IntKind.wrap .i64 ((n : Int) - 2) = ((n - 2 : Nat) : Int) := wrapi_sub (b := 2) (by omega) (by omega)
    have e3 : IntKind.wrap .i64 (IntKind.wrap .i64 ((a : Int) + (n : Int)) - 2) = ((a + n - 2 : Nat) : Int) := by rw [wrapi_add (by omega)]; exact wrapi_sub (b := 2) (by omega) (by omega)
    obtain ⟨k', rfl⟩ : ∃ k', k = k' + 1 := by
      rcases k with _ | k'
      · omega
      · exact ⟨k', rfl⟩
    refine ⟨rlX, ?_⟩
    rw [rg_body]
    simp only [e1, e2, e3, toNat_c, dg_getD (show n - 1 < 8 by omega), dg_getD (show n - 2 < 8 by omega), dg_getD (show a + n - 2 < 17 by omega)]
    have e4 : IntKind.wrap .u64 ((l : Int) + ((dgt v (n - 1) : Nat) : Int)) = ((l + dgt v (n - 1) : Nat) : Int) := wrap_add (by omega)
    have step : 0 < g → (4294967295 < g ∨ l * b32 + dgt u (a + n - 2) < g * dgt v (n - 2)) → T.holds (.need ((decide ((0 : Int) ≤ ((n - 1 : Nat) : Int))) && (decide (((n - 1 : Nat) : Int) < (8 : Int)))) (.need (Nat.ble (n - 1 + 1) 8) (.ite (decide ((IntKind.wrap .u64 ((l : Int) + ((dgt v (n - 1) : Nat) : Int))) > (4294967295 : Int)))
        (.leaf ((.exit 10), rg_st x y n s v (dg 17 u) (dg 16 q) a (IntKind.wrap .u64 ((g : Int) - (1 : Int))) (IntKind.wrap .u64 ((l : Int) + ((dgt v (n - 1) : Nat) : Int)))))
        (.leaf (.normal, rg_st x y n s v (dg 17 u) (dg 16 q) a (IntKind.wrap .u64 ((g : Int) - (1 : Int))) (IntKind.wrap .u64 ((l : Int) + ((dgt v (n - 1) : Nat) : Int))))))))
        (Round (fun z : Nat × Nat × Nat => rg_st x y n s v (dg 17 u) (dg 16 q) a (z.2.1 : Nat) (z.2.2 : Nat)) (fun z => z.2.2 < b32 ∧ z.2.1 ≤ b32 + 1 ∧ gz (dgt v (n - 1)) (dgt v (n - 2)) (dgt u (a + n - 2)) z.1 z.2.1 z.2.2 = fin ∧ b32 ≤ z.1 * dgt v (n - 1) + z.2.2) (fun z => z.1)
          (fun e s' => e = .exit 10 ∧ s' = (rg_st x y n s v (dg 17 u) (dg 16 q) a fin.1 fin.2).s) (k' + 1, g, l)) := by
      intro hg hcond
      have e5 : IntKind.wrap .u64 ((g : Int) - (1 : Int)) = ((g - 1 : Nat) : Int) := wrap_sub_u64 (b := 1) (by omega) (by omega)
      rw [e4, e5]
      simp only [gz, if_pos hcond] at h3
      refine ⟨inN (m := 8) (by omega), by simp; omega, fun hlt => ?_, fun hlt => ?_⟩
      · have hlt' : 4294967295 < l + dgt v (n - 1) := by simp at hlt; omega
        rw [if_pos hlt'] at h3
        rw [← h3]
        exact ⟨rfl, rfl⟩
      · have hlt' : ¬ 4294967295 < l + dgt v (n - 1) := by simp at hlt; omega
        rw [if_neg hlt'] at h3
        refine ⟨(k', g - 1, l + dgt v (n - 1)), ⟨by dsimp only; omega, by dsimp only; omega, h3, ?_⟩, by dsimp only; omega, Sim.refl _⟩
        dsimp only
        rw [Nat.add_mul] at h4; omega
    refine ⟨fun hc => ?_, fun hc => ?_⟩
    · have hc' : 4294967295 < g := by simp at hc; omega
      exact step (by omega) (.inl hc')
    · have hc' : ¬ 4294967295 < g := by simp at hc; omega
      have hm : g * dgt v (n - 2) ≤ 4294967295 * 4294967295 := Nat.mul_le_mul (by omega) (by omega)
      have hl2 : l * 2 ^ 32 ≤ 4294967295 * 4294967296 := Nat.mul_le_mul (by omega) (by decide)
      have e6 : IntKind.wrap .u64 ((g : Int) * ((dgt v (n - 2) : Nat) : Int)) = ((g * dgt v (n - 2) : Nat) : Int) := wrap_mul (by omega)
      have e7 : ior .u64 (ishl .u64 (l : Int) 32) ((dgt u (a + n - 2) : Nat) : Int) = ((l * b32 + dgt u (a + n - 2) : Nat) : Int) := by
        have d3' : dgt u (a + n - 2) < 2 ^ 32 := d3
        rw [show (32 : Int) = ((32 : Nat) : Int) from rfl, ishl_fit (by omega) (by omega), ior_nat (by omega) (by omega), or_shift d3']
        rfl
      rw [e6, e7]
      refine ⟨inN (m := 8) (by omega), by simp; omega, inN (m := 17) (by omega), by simp; omega, fun hlt => ?_, fun hlt => ?_⟩
      · have hlt' : l * b32 + dgt u (a + n - 2) < g * dgt v (n - 2) := Int.ofNat_lt.1 (of_decide_eq_true hlt)
        have : 0 < g := by rcases Nat.eq_zero_or_pos g with h | h; (subst h; simp at hlt'); exact h
        exact step this (.inr hlt')
      · have hlt' : ¬ l * b32 + dgt u (a + n - 2) < g * dgt v (n - 2) := fun h => of_decide_eq_false hlt (Int.ofNat_lt.2 h)
        simp only [gz] at h3
        rw [if_neg (by omega)] at h3
        rw [← h3]
        exact ⟨rfl, rfl⟩
  · have : b32 * 1 ≤ b32 * dgt v (n - 1) := Nat.mul_le_mul_left _ hv
    dsimp only
    omega

end Go.Proofs.Ytakmgioeldbkcaa

/- Contracts: long division by the document (truceref02.long): what is added back. -/
namespace Go.Proofs.Ytakmgioeldbkcaa
open Go Go.RowKit
theorem ra_rule {σ : Type} (st : σ → KS) (Inv : σ → Prop) (μ : σ → Nat) (R : Ex → St → Prop) (hH : ∀ v, (st v).s.H.length ≤ 15) (hstep : ∀ v, Inv v → ∃ X : EnvT Try.prog, (stepT X 100 fi_truceref02_long [0, 1, 0, 1, 1, 0, 1, 0, 1, 1, 1, 1, 1, 1, 1, 1, 1, 0, 0, 1, 0, 0, 1, 0, 1, 1, 1, 1, 1, 1, 1, 1, 1, 1, 1, 1, 1, 1, 1] [4, 5, 6, 7, 8, 12, 13, 15, 17, 19, 22, 27] 15 (kpat [4, 5, 6, 7, 13, 15] 0 311) [false, false, true, true, true, true, false, false, false, false, false, false, false, false, false] (st v)).holds (Round st Inv μ R v)) (v0 : σ) (h0 : Inv v0) : CodeR Try.prog (.loop (loopAt fi_truceref02_long [0, 1, 0, 1, 1, 0, 1, 0, 1, 1, 1, 1, 1, 1, 1, 1, 1, 0, 0, 1, 0, 0, 1, 0, 1, 1, 1, 1, 1, 1, 1, 1, 1, 1, 1, 1, 1, 1, 1])) (st v0).s R :=
  loop_rule mixed fi_truceref02_long [0, 1, 0, 1, 1, 0, 1, 0, 1, 1, 1, 1, 1, 1, 1, 1, 1, 0, 0, 1, 0, 0, 1, 0, 1, 1, 1, 1, 1, 1, 1, 1, 1, 1, 1, 1, 1, 1, 1] [4, 5, 6, 7, 8, 12, 13, 15, 17, 19, 22, 27] 15 (kpat [4, 5, 6, 7, 13, 15] 0 311) [false, false, true, true, true, true, false, false, false, false, false, false, false, false, false] st 100 Inv μ R (loop_sub' (c := loopAt fi_truceref02_long [0, 1, 0, 1, 1, 0, 1, 0, 1, 1, 1, 1, 1, 1, 1, 1, 1, 0, 0, 1, 0, 0, 1, 0, 1, 1, 1, 1, 1, 1, 1, 1, 1, 1, 1, 1, 1, 1, 1]) (by kernel_rfl)) hH hstep v0 h0
theorem raSub : subC fi_truceref02_long.body [0, 1, 0, 1, 1, 0, 1, 0, 1, 1, 1, 1, 1, 1, 1, 1, 1, 0, 0, 1, 0, 0, 1, 0, 1, 1, 1, 1, 1, 1, 1, 1, 1, 1, 1, 1, 1, 1, 1] = some (.loop (loopAt fi_truceref02_long [0, 1, 0, 1, 1, 0, 1, 0, 1, 1, 1, 1, 1, 1, 1, 1, 1, 0, 0, 1, 0, 0, 1, 0, 1, 1, 1, 1, 1, 1, 1, 1, 1, 1, 1, 1, 1, 1, 1])) := loop_sub' (c := loopAt fi_truceref02_long [0, 1, 0, 1, 1, 0, 1, 0, 1, 1, 1, 1, 1, 1, 1, 1, 1, 0, 0, 1, 0, 0, 1, 0, 1, 1, 1, 1, 1, 1, 1, 1, 1, 1, 1, 1, 1, 1, 1]) (by kernel_rfl)
theorem ra_loop (x y n s v u q a g : Nat) (hn8 : n ≤ 8) (han : a + n < 17) : CodeR Try.prog (.loop (loopAt fi_truceref02_long [0, 1, 0, 1, 1, 0, 1, 0, 1, 1, 1, 1, 1, 1, 1, 1, 1, 0, 0, 1, 0, 0, 1, 0, 1, 1, 1, 1, 1, 1, 1, 1, 1, 1, 1, 1, 1, 1, 1])) (ra_st x y n s v (dg 17 u) (dg 16 q) a g 0 0).s
    (fun e s' => e = .exit 14 ∧ s' = (ra_st x y n s v (dg 17 (winY u a (mrW (u / b32 ^ a) v n) (u / b32 ^ a) n)) (dg 16 q) a g (mrC (u / b32 ^ a) v n : Nat) n).s) := by
  refine CodeR.of_sim (ra_rule (σ := Nat) (fun i => ra_st x y n s v (dg 17 (winY u a (mrW (u / b32 ^ a) v i) (u / b32 ^ a) i)) (dg 16 q) a g (mrC (u / b32 ^ a) v i : Nat) (i : Nat)) (fun i => i ≤ n) (fun i => n - i) _ (fun _ => Nat.le_refl 15) ?_ 0 (by omega)) ?_
  · intro i hi
    refine ⟨rlX, ?_⟩
    rw [ra_body]
    refine ⟨fun hc => ?_, fun hc => ?_⟩
    · have hi : i < n := by simp at hc; omega
      obtain ⟨n1, n2⟩ := mr_next (u / b32 ^ a) v i
      rw [Nat.add_comm (mrC (u / b32 ^ a) v i)] at n1 n2
      have w1 : mrW (u / b32 ^ a) v i < b32 ^ i := Nat.mod_lt _ (b32_pos i)
      have hb := mrC_le (u / b32 ^ a) v i
      have hd : dgt v i < 4294967296 := dgt_lt v i
      have hD : dgt (u / b32 ^ a) i < 4294967296 := dgt_lt (u / b32 ^ a) i
      have e1 : IntKind.wrap .i64 ((i : Int) + (a : Int)) = ((a + i : Nat) : Int) := by rw [wrapi_add (by omega), Nat.add_comm]
      have i17 : a + i < 17 := by omega
      have k1 := in17 i17
      have k2 := ble17 i17
      simp only [e1, toNat_c, dg_getD (show i < 8 by omega), dg_getD i17, win_dgt w1] at k1 k2 ⊢
      refine ⟨k1, k2, inN (m := 8) (by omega), bleN (by omega), k1, k2, i + 1, by omega, by dsimp only; omega, Sim.of_eq ?_⟩
      rw [wrap_add (m := dgt (u / b32 ^ a) i) (by omega), wrap_add (by omega), ishr_32, show (4294967295 : Int) = ((4294967295 : Nat) : Int) from rfl, iand_nat (by omega), and_low32, dg_set_mod, win_dset w1, ← n2, wrapi_one (by omega)]
      dsimp only
      rw [n1]
      rfl
    · have hi : i = n := by simp at hc; omega
      subst hi
      exact ⟨rfl, rfl⟩
  · obtain ⟨h1, h2⟩ := mr_zero (u / b32 ^ a) v
    rw [h1, h2, win_zero]; exact Sim.refl _


end Go.Proofs.Ytakmgioeldbkcaa

/- Contracts: long division by the document (truceref02.long): a multiple is taken away. -/
namespace Go.Proofs.Ytakmgioeldbkcaa
open Go Go.RowKit
theorem rm_rule {σ : Type} (st : σ → KS) (Inv : σ → Prop) (μ : σ → Nat) (R : Ex → St → Prop) (hH : ∀ v, (st v).s.H.length ≤ 15) (hstep : ∀ v, Inv v → ∃ X : EnvT Try.prog, (stepT X 100 fi_truceref02_long [0, 1, 0, 1, 1, 1, 1, 1, 1, 0, 0, 1, 0, 0, 1, 0, 1, 1, 1, 1, 1, 1, 1, 1, 1, 1, 1, 1, 1, 1, 1] [4, 5, 6, 7, 8, 12, 13, 15, 17, 19, 21, 22, 23] 15 (kpat [4, 5, 6, 7, 13, 15] 0 311) [false, false, true, true, true, true, false, false, false, false, false, false, false, false, false] (st v)).holds (Round st Inv μ R v)) (v0 : σ) (h0 : Inv v0) : CodeR Try.prog (.loop (loopAt fi_truceref02_long [0, 1, 0, 1, 1, 1, 1, 1, 1, 0, 0, 1, 0, 0, 1, 0, 1, 1, 1, 1, 1, 1, 1, 1, 1, 1, 1, 1, 1, 1, 1])) (st v0).s R :=
  loop_rule mixed fi_truceref02_long [0, 1, 0, 1, 1, 1, 1, 1, 1, 0, 0, 1, 0, 0, 1, 0, 1, 1, 1, 1, 1, 1, 1, 1, 1, 1, 1, 1, 1, 1, 1] [4, 5, 6, 7, 8, 12, 13, 15, 17, 19, 21, 22, 23] 15 (kpat [4, 5, 6, 7, 13, 15] 0 311) [false, false, true, true, true, true, false, false, false, false, false, false, false, false, false] st 100 Inv μ R (loop_sub' (c := loopAt fi_truceref02_long [0, 1, 0, 1, 1, 1, 1, 1, 1, 0, 0, 1, 0, 0, 1, 0, 1, 1, 1, 1, 1, 1, 1, 1, 1, 1, 1, 1, 1, 1, 1]) (by kernel_rfl)) hH hstep v0 h0
theorem rmSub : subC fi_truceref02_long.body [0, 1, 0, 1, 1, 1, 1, 1, 1, 0, 0, 1, 0, 0, 1, 0, 1, 1, 1, 1, 1, 1, 1, 1, 1, 1, 1, 1, 1, 1, 1] = some (.loop (loopAt fi_truceref02_long [0, 1, 0, 1, 1, 1, 1, 1, 1, 0, 0, 1, 0, 0, 1, 0, 1, 1, 1, 1, 1, 1, 1, 1, 1, 1, 1, 1, 1, 1, 1])) := loop_sub' (c := loopAt fi_truceref02_long [0, 1, 0, 1, 1, 1, 1, 1, 1, 0, 0, 1, 0, 0, 1, 0, 1, 1, 1, 1, 1, 1, 1, 1, 1, 1, 1, 1, 1, 1, 1]) (by kernel_rfl)

/-- What is carried of 'g' times 'v', ahead of the digit 'i'. -/
def mcC (v g i : Nat) : Nat := g * (v % b32 ^ i) / b32 ^ i
theorem mc_next (v g i : Nat) : mcC v g (i + 1) = (g * dgt v i + mcC v g i) / b32 := by
  have h := Nat.mod_add_div (g * (v % b32 ^ i)) (b32 ^ i)
  have e : g * (v % b32 ^ (i + 1)) = g * (v % b32 ^ i) % b32 ^ i + b32 ^ i * (g * dgt v i + mcC v g i) := by
    unfold mcC
    rw [mod_next, Nat.mul_add g, Nat.mul_add (b32 ^ i)]
    have e1 : g * (b32 ^ i * dgt v i) = b32 ^ i * (g * dgt v i) := by rw [← Nat.mul_assoc, Nat.mul_comm g, Nat.mul_assoc]
    omega
  obtain ⟨h1, _⟩ := low_div (t := g * dgt v i + mcC v g i) (mod_lt32 (g * (v % b32 ^ i)) i)
  conv => lhs; unfold mcC
  rw [e]; exact h1
theorem rm_math {D p bo : Nat} (hD : D < 4294967296) (hb : bo ≤ 1) :
    (D + 4294967296 - p % 4294967296 - bo) % 4294967296 = (if D < (p + bo) % 4294967296 then D + 4294967296 - (p + bo) % 4294967296 else D - (p + bo) % 4294967296) ∧
    (p + bo) / 4294967296 + (if D < (p + bo) % 4294967296 then 1 else 0) - p / 4294967296 = 1 - (D + 4294967296 - p % 4294967296 - bo) / 4294967296 := by
  constructor <;> split <;> omega
theorem mc_zero (v g : Nat) : mcC v g 0 = 0 := by unfold mcC; simp [Nat.mod_one]
theorem mc_ls (W v g i : Nat) : mcC v g i ≤ lsB W v g i ∧ lsB W v g i ≤ mcC v g i + 1 := by
  have hp := b32_pos i
  have hw := mod_lt32 W i
  unfold mcC lsB
  generalize g * (v % b32 ^ i) = m
  generalize W % b32 ^ i = a at *
  generalize b32 ^ i = p at *
  constructor
  · exact Nat.div_le_div_right (by omega)
  · rw [← Nat.add_div_right _ hp]
    exact Nat.div_le_div_right (by omega)
theorem rm_loop (x y n s v u q a g : Nat) (hn8 : n ≤ 8) (hg : g < b32) (han : a + n < 17) : CodeR Try.prog (.loop (loopAt fi_truceref02_long [0, 1, 0, 1, 1, 1, 1, 1, 1, 0, 0, 1, 0, 0, 1, 0, 1, 1, 1, 1, 1, 1, 1, 1, 1, 1, 1, 1, 1, 1, 1])) (rm_st x y n s v (dg 17 u) (dg 16 q) a g 0 0 0).s
    (fun e s' => e = .exit 12 ∧ s' = (rm_st x y n s v (dg 17 (winY u a (lsW (u / b32 ^ a) v g n) (u / b32 ^ a) n)) (dg 16 q) a g (lsB (u / b32 ^ a) v g n - mcC v g n : Nat) (mcC v g n : Nat) n).s) := by
  refine CodeR.of_sim (rm_rule (σ := Nat) (fun i => rm_st x y n s v (dg 17 (winY u a (lsW (u / b32 ^ a) v g i) (u / b32 ^ a) i)) (dg 16 q) a g (lsB (u / b32 ^ a) v g i - mcC v g i : Nat) (mcC v g i : Nat) (i : Nat)) (fun i => i ≤ n) (fun i => n - i) _ (fun _ => Nat.le_refl 15) ?_ 0 (by omega)) ?_
  · intro i hi
    refine ⟨rlX, ?_⟩
    rw [rm_body]
    refine ⟨fun hc => ?_, fun hc => ?_⟩
    · have hi : i < n := by simp at hc; omega
      obtain ⟨n1, n2⟩ := ls_next (u / b32 ^ a) v g i
      obtain ⟨_, w1⟩ := ls_ok (u / b32 ^ a) v g i
      have hb := ls_lt (W := u / b32 ^ a) (v := v) (i := i) hg
      obtain ⟨c1, c2⟩ := mc_ls (u / b32 ^ a) v g i
      have c3 := mc_next v g i
      have hd := dgt_lt v i
      have hD := dgt_lt (u / b32 ^ a) i
      have hgd : g * dgt v i ≤ 4294967295 * 4294967295 := Nat.mul_le_mul (by unfold b32 at hg; omega) (by unfold b32 at hd; omega)
      have hb' : lsB (u / b32 ^ a) v g i ≤ 4294967295 := hb
      have e1 : IntKind.wrap .i64 ((i : Int) + (a : Int)) = ((a + i : Nat) : Int) := by rw [wrapi_add (by omega), Nat.add_comm]
      have i17 : a + i < 17 := by omega
      have k1 := in17 i17
      have k2 := ble17 i17
      have hB : b32 = 4294967296 := rfl
      obtain ⟨p, hp⟩ : ∃ p, p = g * dgt v i + mcC v g i := ⟨_, rfl⟩
      obtain ⟨bo, hbo⟩ : ∃ bo, bo = lsB (u / b32 ^ a) v g i - mcC v g i := ⟨_, rfl⟩
      have e2 : IntKind.wrap .u64 (IntKind.wrap .u64 ((g : Int) * ((dgt v i : Nat) : Int)) + ((mcC v g i : Nat) : Int)) = (p : Int) := by
        rw [wrap_mul (by omega), wrap_add (by omega), hp]
      have e3 : iand .u64 (p : Int) 4294967295 = ((p % b32 : Nat) : Int) := by
        rw [show (4294967295 : Int) = ((4294967295 : Nat) : Int) from rfl, iand_nat (by omega), and_low32]; rfl
      have hr := Nat.mod_lt p (show 0 < b32 by decide)
      have hls : lsB (u / b32 ^ a) v g i + g * dgt v i = p + bo := by omega
      rw [hls] at n1 n2
      rw [← hp] at c3
      have e4 : IntKind.wrap .u64 (IntKind.wrap .u64 (IntKind.wrap .u64 (((dgt (u / b32 ^ a) i : Nat) : Int) + 4294967296) - ((p % b32 : Nat) : Int)) - (bo : Int)) = ((dgt (u / b32 ^ a) i + b32 - p % b32 - bo : Nat) : Int) := by
        rw [show (4294967296 : Int) = ((b32 : Nat) : Int) from rfl, wrap_add (by omega), wrap_sub_u64 (by omega) (by omega), wrap_sub_u64 (by omega) (by omega)]
      have e5 : iand .u64 ((dgt (u / b32 ^ a) i + b32 - p % b32 - bo : Nat) : Int) 4294967295 = (((dgt (u / b32 ^ a) i + b32 - p % b32 - bo) % b32 : Nat) : Int) := by
        rw [show (4294967295 : Int) = ((4294967295 : Nat) : Int) from rfl, iand_nat (by omega), and_low32]; rfl
      have e6 : IntKind.wrap .u64 ((1 : Int) - ((((dgt (u / b32 ^ a) i + b32 - p % b32 - bo) / 4294967296 : Nat) : Nat) : Int)) = ((1 - (dgt (u / b32 ^ a) i + b32 - p % b32 - bo) / 4294967296 : Nat) : Int) := by
        rw [show (1 : Int) = ((1 : Nat) : Int) from rfl]
        exact wrap_sub_u64 (by omega) (by omega)
      simp only [e1, toNat_c, dg_getD (show i < 8 by omega), dg_getD i17, ← hbo, e2, e3, win_dgt w1] at k1 k2 ⊢
      refine ⟨inN (m := 8) (by omega), bleN (by omega), k1, k2, k1, k2, i + 1, by omega, by dsimp only; omega, Sim.of_eq ?_⟩
      rw [e4, e5, ishr_32, ishr_32, e6, dg_set (Nat.mod_lt _ (show 0 < b32 by decide)), win_dset w1, wrapi_one (by omega)]
      obtain ⟨f1, f2⟩ := rm_math (D := dgt (u / b32 ^ a) i) (p := p) (bo := bo) hD (by omega)
      have f2' : lsB (u / b32 ^ a) v g (i + 1) - mcC v g (i + 1) = 1 - (dgt (u / b32 ^ a) i + b32 - p % b32 - bo) / 4294967296 := by
        rw [n1, c3]; exact f2
      have f1' : (dgt (u / b32 ^ a) i + b32 - p % b32 - bo) % b32 = if dgt (u / b32 ^ a) i < (p + bo) % b32 then dgt (u / b32 ^ a) i + b32 - (p + bo) % b32 else dgt (u / b32 ^ a) i - (p + bo) % b32 := f1
      dsimp only
      rw [f2', n2, c3, f1']
      rfl
    · have hi : i = n := by simp at hc; omega
      subst hi
      exact ⟨rfl, rfl⟩
  · obtain ⟨h1, h2⟩ := ls_zero (u / b32 ^ a) v g
    rw [h1, h2, win_zero, mc_zero]; exact Sim.refl _

end Go.Proofs.Ytakmgioeldbkcaa

/- Contracts: long division by the document (truceref02.long): the inner loops' laws. -/
namespace Go.Proofs.Ytakmgioeldbkcaa
open Go Go.RowKit
def rT (u a n : Nat) : Nat := dgt u (a + n) * b32 + dgt u (a + n - 1)
theorem rg_loopA (x y n s v u q a : Nat) (hn : 2 ≤ n) (hn8 : n ≤ 8) (han : a + n < 17) (hv : 0 < dgt v (n - 1)) (hg0 : rT u a n / dgt v (n - 1) ≤ b32 + 1) : CodeR Try.prog (.loop (loopAt fi_truceref02_long [0, 0, 1, 1, 1, 0, 0, 1, 0, 0, 1, 0, 1, 1, 1, 1, 1, 1, 1, 1, 1, 1, 1, 1, 1, 1, 1])) (rg_st x y n s v (dg 17 u) (dg 16 q) a (rT u a n / dgt v (n - 1) : Nat) (rT u a n % dgt v (n - 1) : Nat)).s
    (fun e s' => e = .exit 10 ∧ s' = (rg_st x y n s v (dg 17 u) (dg 16 q) a (gAt u v a n : Nat) (gL (dgt v (n - 1)) (dgt v (n - 2)) (dgt u (a + n - 2)) (rT u a n / dgt v (n - 1)) (rT u a n % dgt v (n - 1)) : Nat)).s) := by
  have h := rg_loop x y n s v u q a (rT u a n / dgt v (n - 1)) (rT u a n % dgt v (n - 1)) hn hn8 han hv hg0 (Nat.lt_trans (Nat.mod_lt _ hv) (dgt_lt v (n - 1)))
  have e : gAt u v a n = gG (dgt v (n - 1)) (dgt v (n - 2)) (dgt u (a + n - 2)) (rT u a n / dgt v (n - 1)) (rT u a n % dgt v (n - 1)) := by
    unfold gAt rT; rfl
  rw [e]; exact h
noncomputable def rgLC (x y n s v u q a : Nat) (hn : 2 ≤ n) (hn8 : n ≤ 8) (han : a + n < 17) (hv : 0 < dgt v (n - 1)) (hg0 : rT u a n / dgt v (n - 1) ≤ b32 + 1) : LCT Try.prog :=
  LCT.one fi_truceref02_long [0, 0, 1, 1, 1, 0, 0, 1, 0, 0, 1, 0, 1, 1, 1, 1, 1, 1, 1, 1, 1, 1, 1, 1, 1, 1, 1] _ _ (rg_st x y n s v (dg 17 u) (dg 16 q) a (gAt u v a n : Nat) (gL (dgt v (n - 1)) (dgt v (n - 2)) (dgt u (a + n - 2)) (rT u a n / dgt v (n - 1)) (rT u a n % dgt v (n - 1)) : Nat)) rgSub (rg_loopA x y n s v u q a hn hn8 han hv hg0)
noncomputable def rmLC (x y n s v u q a g : Nat) (hn8 : n ≤ 8) (hg : g < b32) (han : a + n < 17) : LCT Try.prog :=
  LCT.one fi_truceref02_long [0, 1, 0, 1, 1, 1, 1, 1, 1, 0, 0, 1, 0, 0, 1, 0, 1, 1, 1, 1, 1, 1, 1, 1, 1, 1, 1, 1, 1, 1, 1] _ _ (rm_st x y n s v (dg 17 (winY u a (lsW (u / b32 ^ a) v g n) (u / b32 ^ a) n)) (dg 16 q) a g (lsB (u / b32 ^ a) v g n - mcC v g n : Nat) (mcC v g n : Nat) n) rmSub (rm_loop x y n s v u q a g hn8 hg han)
noncomputable def raLC (x y n s v u q a g : Nat) (hn8 : n ≤ 8) (han : a + n < 17) : LCT Try.prog :=
  LCT.one fi_truceref02_long [0, 1, 0, 1, 1, 0, 1, 0, 1, 1, 1, 1, 1, 1, 1, 1, 1, 0, 0, 1, 0, 0, 1, 0, 1, 1, 1, 1, 1, 1, 1, 1, 1, 1, 1, 1, 1, 1, 1] _ _ (ra_st x y n s v (dg 17 (winY u a (mrW (u / b32 ^ a) v n) (u / b32 ^ a) n)) (dg 16 q) a g (mrC (u / b32 ^ a) v n : Nat) n) raSub (ra_loop x y n s v u q a g hn8 han)
noncomputable def rlX5 (x y n s v u q a : Nat) (hn : 2 ≤ n) (hn8 : n ≤ 8) (han : a + n < 17) (hv : 0 < dgt v (n - 1)) (hg0 : rT u a n / dgt v (n - 1) ≤ b32 + 1) (hg : gAt u v a n < b32) : EnvT Try.prog :=
  { rlX with lcs := [rgLC x y n s v u q a hn hn8 han hv hg0, rmLC x y n s v u q a (gAt u v a n) hn8 hg han, raLC x y n s v (lessY u v (gAt u v a n) a n) q a (gAt u v a n - 1) hn8 han] }
end Go.Proofs.Ytakmgioeldbkcaa

/- Contracts: long division by the document (truceref02.long): the main loop's round. -/
namespace Go.Proofs.Ytakmgioeldbkcaa
open Go Go.RowKit
theorem rl5_body (x : Nat) (y : Nat) (n : Nat) (s : Nat) (v : Nat) (u : Nat) (q : Nat) (a : Nat) (hn : 2 ≤ n) (hn8 : n ≤ 8) (han : a + n < 17) (hv : 0 < dgt v (n - 1)) (hg0 : rT u a n / dgt v (n - 1) ≤ b32 + 1) (hg : gAt u v a n < b32) : stepT (rlX5 x y n s v u q a hn hn8 han hv hg0 hg) 100 fi_truceref02_long [0, 1, 0, 1, 1, 1, 1, 1, 1, 1, 1, 1, 1, 1, 1, 1, 1, 1] [4, 5, 6, 7, 8, 12, 13, 15, 17] 15 (kpat [4, 5, 6, 7, 13, 15] 0 311) [false, false, true, true, true, true, false, false, false, false, false, false, false, false, false] (rl5_st x y n s v (dg 17 u) (dg 16 q) ((a : Nat) : Int)) =
    (.ite (decide (((a : Nat) : Int) ≥ (0 : Int)))
     (.need ((decide ((0 : Int) ≤ (IntKind.wrap .i64 (((a : Nat) : Int) + ((n : Nat) : Int))))) && (decide ((IntKind.wrap .i64 (((a : Nat) : Int) + ((n : Nat) : Int))) < (17 : Int))))
     (.need (Nat.ble ((Int.toNat (IntKind.wrap .i64 (((a : Nat) : Int) + ((n : Nat) : Int)))) + 1) 17)
     (.need ((decide ((0 : Int) ≤ (IntKind.wrap .i64 ((IntKind.wrap .i64 (((a : Nat) : Int) + ((n : Nat) : Int))) - (1 : Int))))) && (decide ((IntKind.wrap .i64 ((IntKind.wrap .i64 (((a : Nat) : Int) + ((n : Nat) : Int))) - (1 : Int))) < (17 : Int))))
     (.need (Nat.ble ((Int.toNat (IntKind.wrap .i64 ((IntKind.wrap .i64 (((a : Nat) : Int) + ((n : Nat) : Int))) - (1 : Int)))) + 1) 17)
     (.need ((decide ((0 : Int) ≤ (IntKind.wrap .i64 (((n : Nat) : Int) - (1 : Int))))) && (decide ((IntKind.wrap .i64 (((n : Nat) : Int) - (1 : Int))) < (8 : Int))))
     (.need (Nat.ble ((Int.toNat (IntKind.wrap .i64 (((n : Nat) : Int) - (1 : Int)))) + 1) 8)
     (.need (!(decide ((List.getD (dg 8 v) (Int.toNat (IntKind.wrap .i64 (((n : Nat) : Int) - (1 : Int)))) (0 : Int)) = (0 : Int))))
     (.need ((decide ((0 : Int) ≤ (IntKind.wrap .i64 (((n : Nat) : Int) - (1 : Int))))) && (decide ((IntKind.wrap .i64 (((n : Nat) : Int) - (1 : Int))) < (8 : Int))))
     (.need (Nat.ble ((Int.toNat (IntKind.wrap .i64 (((n : Nat) : Int) - (1 : Int)))) + 1) 8)
     (.need (!(decide ((List.getD (dg 8 v) (Int.toNat (IntKind.wrap .i64 (((n : Nat) : Int) - (1 : Int)))) (0 : Int)) = (0 : Int))))
     (.need (((n : Nat) : Int) == ((n : Nat) : Int))
     (.need (((s : Nat) : Int) == ((s : Nat) : Int))
     (.need (((a : Nat) : Int) == ((a : Nat) : Int))
     (.need (((((rT u a n) / (dgt v (n - 1))) : Nat) : Int) == (IntKind.wrap .u64 (Int.tdiv (ior .u64 (ishl .u64 (List.getD (dg 17 u) (Int.toNat (IntKind.wrap .i64 (((a : Nat) : Int) + ((n : Nat) : Int)))) (0 : Int)) (32 : Int)) (List.getD (dg 17 u) (Int.toNat (IntKind.wrap .i64 ((IntKind.wrap .i64 (((a : Nat) : Int) + ((n : Nat) : Int))) - (1 : Int)))) (0 : Int))) (List.getD (dg 8 v) (Int.toNat (IntKind.wrap .i64 (((n : Nat) : Int) - (1 : Int)))) (0 : Int)))))
     (.need (((((rT u a n) % (dgt v (n - 1))) : Nat) : Int) == (Int.tmod (ior .u64 (ishl .u64 (List.getD (dg 17 u) (Int.toNat (IntKind.wrap .i64 (((a : Nat) : Int) + ((n : Nat) : Int)))) (0 : Int)) (32 : Int)) (List.getD (dg 17 u) (Int.toNat (IntKind.wrap .i64 ((IntKind.wrap .i64 (((a : Nat) : Int) + ((n : Nat) : Int))) - (1 : Int)))) (0 : Int))) (List.getD (dg 8 v) (Int.toNat (IntKind.wrap .i64 (((n : Nat) : Int) - (1 : Int)))) (0 : Int))))
     (.need ((dg 16 x) == (dg 16 x))
     (.need ((dg 8 y) == (dg 8 y))
     (.need true
     (.need true
     (.need ((dg 16 q) == (dg 16 q))
     (.need true
     (.need ((dg 8 v) == (dg 8 v))
     (.need ((dg 17 u) == (dg 17 u))
     (.need true
     (.need (((n : Nat) : Int) == ((n : Nat) : Int))
     (.need (((s : Nat) : Int) == ((s : Nat) : Int))
     (.need (((a : Nat) : Int) == ((a : Nat) : Int))
     (.need ((((gAt u v a n) : Nat) : Int) == (((gAt u v a n) : Nat) : Int))
     (.need true
     (.need true
     (.need true
     (.need ((dg 16 x) == (dg 16 x))
     (.need ((dg 8 y) == (dg 8 y))
     (.need true
     (.need true
     (.need ((dg 16 q) == (dg 16 q))
     (.need true
     (.need ((dg 8 v) == (dg 8 v))
     (.need ((dg 17 u) == (dg 17 u))
     (.need true
     (.need ((decide ((0 : Int) ≤ (IntKind.wrap .i64 (((a : Nat) : Int) + ((n : Nat) : Int))))) && (decide ((IntKind.wrap .i64 (((a : Nat) : Int) + ((n : Nat) : Int))) < (17 : Int))))
     (.need (Nat.ble ((Int.toNat (IntKind.wrap .i64 (((a : Nat) : Int) + ((n : Nat) : Int)))) + 1) 17)
     (.need ((decide ((0 : Int) ≤ (IntKind.wrap .i64 (((a : Nat) : Int) + ((n : Nat) : Int))))) && (decide ((IntKind.wrap .i64 (((a : Nat) : Int) + ((n : Nat) : Int))) < (17 : Int))))
     (.need (Nat.ble ((Int.toNat (IntKind.wrap .i64 (((a : Nat) : Int) + ((n : Nat) : Int)))) + 1) 17)
     (.ite ((ishr .u64 (IntKind.wrap .u64 ((IntKind.wrap .u64 ((IntKind.wrap .u64 ((List.getD (dg 17 (winY u a (lsW (u / (b32 ^ a)) v (gAt u v a n) n) (u / (b32 ^ a)) n)) (Int.toNat (IntKind.wrap .i64 (((a : Nat) : Int) + ((n : Nat) : Int)))) (0 : Int)) + (4294967296 : Int))) - (((mcC v (gAt u v a n) n) : Nat) : Int))) - ((((lsB (u / (b32 ^ a)) v (gAt u v a n) n) - (mcC v (gAt u v a n) n)) : Nat) : Int))) (32 : Int)) == (0 : Int))
      (.need (((n : Nat) : Int) == ((n : Nat) : Int))
      (.need (((s : Nat) : Int) == ((s : Nat) : Int))
      (.need (((a : Nat) : Int) == ((a : Nat) : Int))
      (.need (((((gAt u v a n) - 1) : Nat) : Int) == (IntKind.wrap .u64 ((((gAt u v a n) : Nat) : Int) - (1 : Int))))
      (.need true
      (.need true
      (.need ((dg 16 x) == (dg 16 x))
      (.need ((dg 8 y) == (dg 8 y))
      (.need true
      (.need true
      (.need ((dg 16 q) == (dg 16 q))
      (.need true
      (.need ((dg 8 v) == (dg 8 v))
      (.need ((dg 17 (lessY u v (gAt u v a n) a n)) == (List.set (dg 17 (winY u a (lsW (u / (b32 ^ a)) v (gAt u v a n) n) (u / (b32 ^ a)) n)) (Int.toNat (IntKind.wrap .i64 (((a : Nat) : Int) + ((n : Nat) : Int)))) (iand .u64 (IntKind.wrap .u64 ((IntKind.wrap .u64 ((IntKind.wrap .u64 ((List.getD (dg 17 (winY u a (lsW (u / (b32 ^ a)) v (gAt u v a n) n) (u / (b32 ^ a)) n)) (Int.toNat (IntKind.wrap .i64 (((a : Nat) : Int) + ((n : Nat) : Int)))) (0 : Int)) + (4294967296 : Int))) - (((mcC v (gAt u v a n) n) : Nat) : Int))) - ((((lsB (u / (b32 ^ a)) v (gAt u v a n) n) - (mcC v (gAt u v a n) n)) : Nat) : Int))) (4294967295 : Int))))
      (.need true
      (.need ((decide ((0 : Int) ≤ (IntKind.wrap .i64 (((a : Nat) : Int) + ((n : Nat) : Int))))) && (decide ((IntKind.wrap .i64 (((a : Nat) : Int) + ((n : Nat) : Int))) < (17 : Int))))
      (.need (Nat.ble ((Int.toNat (IntKind.wrap .i64 (((a : Nat) : Int) + ((n : Nat) : Int)))) + 1) 17)
      (.need ((decide ((0 : Int) ≤ (IntKind.wrap .i64 (((a : Nat) : Int) + ((n : Nat) : Int))))) && (decide ((IntKind.wrap .i64 (((a : Nat) : Int) + ((n : Nat) : Int))) < (17 : Int))))
      (.need (Nat.ble ((Int.toNat (IntKind.wrap .i64 (((a : Nat) : Int) + ((n : Nat) : Int)))) + 1) 17)
      (.need ((decide ((0 : Int) ≤ ((a : Nat) : Int))) && (decide (((a : Nat) : Int) < (16 : Int))))
      (.need (Nat.ble ((Int.toNat ((a : Nat) : Int)) + 1) 16)
      (.leaf (.normal, rl5_st x y n s v (List.set (dg 17 (winY (lessY u v (gAt u v a n) a n) a (mrW ((lessY u v (gAt u v a n) a n) / (b32 ^ a)) v n) ((lessY u v (gAt u v a n) a n) / (b32 ^ a)) n)) (Int.toNat (IntKind.wrap .i64 (((a : Nat) : Int) + ((n : Nat) : Int)))) (iand .u64 (IntKind.wrap .u64 ((List.getD (dg 17 (winY (lessY u v (gAt u v a n) a n) a (mrW ((lessY u v (gAt u v a n) a n) / (b32 ^ a)) v n) ((lessY u v (gAt u v a n) a n) / (b32 ^ a)) n)) (Int.toNat (IntKind.wrap .i64 (((a : Nat) : Int) + ((n : Nat) : Int)))) (0 : Int)) + (((mrC ((lessY u v (gAt u v a n) a n) / (b32 ^ a)) v n) : Nat) : Int))) (4294967295 : Int))) (List.set (dg 16 q) (Int.toNat ((a : Nat) : Int)) ((((gAt u v a n) - 1) : Nat) : Int)) (IntKind.wrap .i64 (((a : Nat) : Int) - (1 : Int))))))))))))))))))))))))))
      (.need ((decide ((0 : Int) ≤ ((a : Nat) : Int))) && (decide (((a : Nat) : Int) < (16 : Int))))
      (.need (Nat.ble ((Int.toNat ((a : Nat) : Int)) + 1) 16)
      (.leaf (.normal, rl5_st x y n s v (List.set (dg 17 (winY u a (lsW (u / (b32 ^ a)) v (gAt u v a n) n) (u / (b32 ^ a)) n)) (Int.toNat (IntKind.wrap .i64 (((a : Nat) : Int) + ((n : Nat) : Int)))) (iand .u64 (IntKind.wrap .u64 ((IntKind.wrap .u64 ((IntKind.wrap .u64 ((List.getD (dg 17 (winY u a (lsW (u / (b32 ^ a)) v (gAt u v a n) n) (u / (b32 ^ a)) n)) (Int.toNat (IntKind.wrap .i64 (((a : Nat) : Int) + ((n : Nat) : Int)))) (0 : Int)) + (4294967296 : Int))) - (((mcC v (gAt u v a n) n) : Nat) : Int))) - ((((lsB (u / (b32 ^ a)) v (gAt u v a n) n) - (mcC v (gAt u v a n) n)) : Nat) : Int))) (4294967295 : Int))) (List.set (dg 16 q) (Int.toNat ((a : Nat) : Int)) (((gAt u v a n) : Nat) : Int)) (IntKind.wrap .i64 (((a : Nat) : Int) - (1 : Int))))))))))))))))))))))))))))))))))))))))))))))))))))
     (.leaf ((.exit 8), rl5_st x y n s v (dg 17 u) (dg 16 q) ((a : Nat) : Int)))) := by kernel_rfl
noncomputable def rlXe : EnvT Try.prog := { rlX with lcs := [LCT.bad 106 [0, 0, 1, 1, 1, 0, 0, 1, 0, 0, 1, 0, 1, 1, 1, 1, 1, 1, 1, 1, 1, 1, 1, 1, 1, 1, 1], LCT.bad 106 [0, 1, 0, 1, 1, 1, 1, 1, 1, 0, 0, 1, 0, 0, 1, 0, 1, 1, 1, 1, 1, 1, 1, 1, 1, 1, 1, 1, 1, 1, 1], LCT.bad 106 [0, 1, 0, 1, 1, 0, 1, 0, 1, 1, 1, 1, 1, 1, 1, 1, 1, 0, 0, 1, 0, 0, 1, 0, 1, 1, 1, 1, 1, 1, 1, 1, 1, 1, 1, 1, 1, 1, 1]] }
theorem rl5_end (x : Nat) (y : Nat) (n : Nat) (s : Nat) (v : Nat) (u : Nat) (q : Nat) (a : Int) : stepT rlXe 100 fi_truceref02_long [0, 1, 0, 1, 1, 1, 1, 1, 1, 1, 1, 1, 1, 1, 1, 1, 1, 1] [4, 5, 6, 7, 8, 12, 13, 15, 17] 15 (kpat [4, 5, 6, 7, 13, 15] 0 311) [false, false, true, true, true, true, false, false, false, false, false, false, false, false, false] (rl5_st x y n s v (dg 17 u) (dg 16 q) a) =
    (.ite (decide (a ≥ (0 : Int)))
     (.need ((decide ((0 : Int) ≤ (IntKind.wrap .i64 (a + ((n : Nat) : Int))))) && (decide ((IntKind.wrap .i64 (a + ((n : Nat) : Int))) < (17 : Int))))
     (.need (Nat.ble ((Int.toNat (IntKind.wrap .i64 (a + ((n : Nat) : Int)))) + 1) 17)
     (.need ((decide ((0 : Int) ≤ (IntKind.wrap .i64 ((IntKind.wrap .i64 (a + ((n : Nat) : Int))) - (1 : Int))))) && (decide ((IntKind.wrap .i64 ((IntKind.wrap .i64 (a + ((n : Nat) : Int))) - (1 : Int))) < (17 : Int))))
     (.need (Nat.ble ((Int.toNat (IntKind.wrap .i64 ((IntKind.wrap .i64 (a + ((n : Nat) : Int))) - (1 : Int)))) + 1) 17)
     (.need ((decide ((0 : Int) ≤ (IntKind.wrap .i64 (((n : Nat) : Int) - (1 : Int))))) && (decide ((IntKind.wrap .i64 (((n : Nat) : Int) - (1 : Int))) < (8 : Int))))
     (.need (Nat.ble ((Int.toNat (IntKind.wrap .i64 (((n : Nat) : Int) - (1 : Int)))) + 1) 8)
     (.need (!(decide ((List.getD (dg 8 v) (Int.toNat (IntKind.wrap .i64 (((n : Nat) : Int) - (1 : Int)))) (0 : Int)) = (0 : Int))))
     (.need ((decide ((0 : Int) ≤ (IntKind.wrap .i64 (((n : Nat) : Int) - (1 : Int))))) && (decide ((IntKind.wrap .i64 (((n : Nat) : Int) - (1 : Int))) < (8 : Int))))
     (.need (Nat.ble ((Int.toNat (IntKind.wrap .i64 (((n : Nat) : Int) - (1 : Int)))) + 1) 8)
     (.need (!(decide ((List.getD (dg 8 v) (Int.toNat (IntKind.wrap .i64 (((n : Nat) : Int) - (1 : Int)))) (0 : Int)) = (0 : Int))))
     .bad))))))))))
     (.leaf ((.exit 8), rl5_st x y n s v (dg 17 u) (dg 16 q) a))) := by kernel_rfl
theorem rl5_rule {σ : Type} (st : σ → KS) (Inv : σ → Prop) (μ : σ → Nat) (R : Ex → St → Prop) (hH : ∀ v, (st v).s.H.length ≤ 15) (hstep : ∀ v, Inv v → ∃ X : EnvT Try.prog, (stepT X 100 fi_truceref02_long [0, 1, 0, 1, 1, 1, 1, 1, 1, 1, 1, 1, 1, 1, 1, 1, 1, 1] [4, 5, 6, 7, 8, 12, 13, 15, 17] 15 (kpat [4, 5, 6, 7, 13, 15] 0 311) [false, false, true, true, true, true, false, false, false, false, false, false, false, false, false] (st v)).holds (Round st Inv μ R v)) (v0 : σ) (h0 : Inv v0) : CodeR Try.prog (.loop (loopAt fi_truceref02_long [0, 1, 0, 1, 1, 1, 1, 1, 1, 1, 1, 1, 1, 1, 1, 1, 1, 1])) (st v0).s R :=
  loop_rule mixed fi_truceref02_long [0, 1, 0, 1, 1, 1, 1, 1, 1, 1, 1, 1, 1, 1, 1, 1, 1, 1] [4, 5, 6, 7, 8, 12, 13, 15, 17] 15 (kpat [4, 5, 6, 7, 13, 15] 0 311) [false, false, true, true, true, true, false, false, false, false, false, false, false, false, false] st 100 Inv μ R (loop_sub' (c := loopAt fi_truceref02_long [0, 1, 0, 1, 1, 1, 1, 1, 1, 1, 1, 1, 1, 1, 1, 1, 1, 1]) (by kernel_rfl)) hH hstep v0 h0
theorem rl5Sub : subC fi_truceref02_long.body [0, 1, 0, 1, 1, 1, 1, 1, 1, 1, 1, 1, 1, 1, 1, 1, 1, 1] = some (.loop (loopAt fi_truceref02_long [0, 1, 0, 1, 1, 1, 1, 1, 1, 1, 1, 1, 1, 1, 1, 1, 1, 1])) := loop_sub' (c := loopAt fi_truceref02_long [0, 1, 0, 1, 1, 1, 1, 1, 1, 1, 1, 1, 1, 1, 1, 1, 1, 1]) (by kernel_rfl)
end Go.Proofs.Ytakmgioeldbkcaa

/- Contracts: long division by the document (truceref02.long): the main loop. -/
namespace Go.Proofs.Ytakmgioeldbkcaa
open Go Go.RowKit
theorem need_i {α : Type} {c : Bool} {t : T α} {Q : α → Prop} (h1 : c = true) (h2 : t.holds Q) : (T.need c t).holds Q := ⟨h1, h2⟩
theorem x_math {D L C : Nat} (hD : D < b32) (h1 : C ≤ L) (hL : L ≤ b32 - 1) : IntKind.wrap .u64 (IntKind.wrap .u64 (IntKind.wrap .u64 ((D : Int) + 4294967296) - (C : Int)) - ((L - C : Nat) : Int)) = ((D + b32 - L : Nat) : Int) := by
  have hB : b32 = 4294967296 := rfl
  rw [show (4294967296 : Int) = ((b32 : Nat) : Int) from rfl, wrap_add (by omega), wrap_sub_u64 (by omega) (by omega), wrap_sub_u64 (by omega) (by omega)]
  rw [show D + b32 - C - (L - C) = D + b32 - L by omega]
theorem rl5_loop (x y U v n s : Nat) (hn : 2 ≤ n) (hn8 : n ≤ 8) (hv : v < b32 ^ n) (htop : 2147483648 ≤ dgt v (n - 1)) (hU : U < b32 ^ 17) (hUv : U < v * b32 ^ (17 - n)) :
    CodeR Try.prog (.loop (loopAt fi_truceref02_long [0, 1, 0, 1, 1, 1, 1, 1, 1, 1, 1, 1, 1, 1, 1, 1, 1, 1])) (rl5_st x y n s v (dg 17 U) (dg 16 0) ((16 : Int) - n)).s
    (fun e s' => e = .exit 8 ∧ s' = (rl5_st x y n s v (dg 17 (U % v)) (dg 16 (U / v)) (-1)).s) := by
  have hB : b32 = 4294967296 := rfl
  have hn17 : n ≤ 17 := by omega
  have hv17 : v < b32 ^ 17 := Nat.lt_of_lt_of_le hv (pow_le32 hn17)
  have hv0 : 0 < v := by
    rcases Nat.eq_zero_or_pos v with h | h
    · subst h; omega
    · exact h
  refine CodeR.of_sim (rl5_rule (σ := Nat × Nat × Nat) (fun z => rl5_st x y n s v (dg 17 z.2.1) (dg 16 z.2.2) ((z.1 : Int) - 1)) (LInv U v n) (fun z => z.1) _ (fun _ => Nat.le_refl 15) ?_ (17 - n, U, 0) ⟨by dsimp only; omega, hUv, by simp, by simp, b32_pos 17⟩) ?_
  · rintro ⟨k, u, q⟩ ⟨h1, h2, h3, h4, h5⟩
    simp only at h1 h2 h3 h4 h5 ⊢
    have hu17 : u < b32 ^ 17 := by
      have : u ≤ U := by rw [← h3]; exact Nat.le_add_right _ _
      omega
    rcases k with _ | a
    rotate_left
    · 
      have ha : ((a + 1 : Nat) : Int) - 1 = (a : Int) := by omega
      have hua : u / b32 ^ a < v * b32 := by
        rw [Nat.div_lt_iff_lt_mul (b32_pos a), Nat.mul_assoc, ← Nat.pow_succ', ]
        exact h2
      obtain ⟨g1, g2, g3, g4⟩ := gAt_ok hn hv htop hua
      have hWn : u / b32 ^ a < b32 ^ (n + 1) := by
        have : v * b32 ≤ b32 ^ n * b32 := Nat.mul_le_mul_right _ (Nat.le_of_lt hv)
        rw [← Nat.pow_succ] at this; exact Nat.lt_of_lt_of_le hua this
      obtain ⟨Q, hQ⟩ : ∃ Q, Q = u / b32 ^ a / v := ⟨_, rfl⟩
      rw [← hQ] at g1 g2
      have hdm : Q * v ≤ u / b32 ^ a := by rw [hQ]; exact Nat.div_mul_le_self (u / b32 ^ a) v
      have hlt : u / b32 ^ a < v * (Q + 1) := by rw [hQ]; exact Nat.lt_mul_div_succ (u / b32 ^ a) hv0
      have hgv : gAt u v a n * v ≤ u / b32 ^ a + v := by
        have : gAt u v a n * v ≤ (Q + 1) * v := Nat.mul_le_mul_right _ g2
        rw [Nat.add_mul, Nat.one_mul] at this; omega
      obtain ⟨r1, r2⟩ := less_val hv hWn g3 hgv
      have hq1 : Q < b32 := by rw [hQ, Nat.div_lt_iff_lt_mul hv0, Nat.mul_comm]; exact hua
      -- the digit 'd' is laid into the quotient, and so much is taken off
      have fin : ∀ d, d = Q → Sim (rl5_st x y n s v (dg 17 (u - b32 ^ a * (d * v))) ((dg 16 q).set a (d : Int)) (IntKind.wrap .i64 ((a : Int) - 1))).s (rl5_st x y n s v (dg 17 (u - b32 ^ a * (d * v))) (dg 16 (q + b32 ^ a * d)) ((a : Int) - 1)).s ∧ LInv U v n (a, u - b32 ^ a * (d * v), q + b32 ^ a * d) := by
        intro d hd
        have hdb : d < b32 := by rw [hd]; exact hq1
        have e0 : q = 0 + b32 ^ a * (0 + b32 * (q / b32 ^ (a + 1))) := by
          have := Nat.mod_add_div q (b32 ^ (a + 1))
          rw [h4] at this
          rw [Nat.zero_add, Nat.zero_add, ← Nat.mul_assoc, ← Nat.pow_succ]
          show q = b32 ^ (a + 1) * (q / b32 ^ (a + 1))
          omega
        have e1 : dset q a d = q + b32 ^ a * d := by
          conv => lhs; rw [e0]
          rw [form_dset (b32_pos a) (by decide), Nat.mul_add]
          conv => rhs; rw [e0]
          rw [Nat.zero_add, Nat.zero_add, Nat.zero_add]
          omega
        have hle : b32 ^ a * (d * v) ≤ u := by
          have f1 : b32 ^ a * (d * v) ≤ b32 ^ a * (u / b32 ^ a) := Nat.mul_le_mul_left _ (by rw [hd]; exact hdm)
          have f2 := Nat.mul_div_le u (b32 ^ a)
          omega
        refine ⟨Sim.of_eq ?_, by dsimp only; omega, ?_, ?_, ?_, ?_⟩
        · rw [dg_set hdb, e1, wrap_i64_in (by omega) (by omega)]
        · -- what is left is below
          dsimp only
          have f1 := Nat.mod_add_div u (b32 ^ a)
          have f2 := mod_lt32 u a
          have f3 : u / b32 ^ a + 1 ≤ (d + 1) * v := by rw [hd, Nat.mul_comm]; exact hlt
          have f4 : b32 ^ a * (u / b32 ^ a + 1) ≤ b32 ^ a * ((d + 1) * v) := Nat.mul_le_mul_left _ f3
          rw [Nat.add_mul d, Nat.mul_add, Nat.mul_add, Nat.mul_one, Nat.one_mul, Nat.mul_comm (b32 ^ a) v] at f4
          omega
        · dsimp only
          have e2 : v * (q + b32 ^ a * d) = v * q + b32 ^ a * (d * v) := by rw [Nat.mul_add, Nat.mul_comm v (b32 ^ a * d), Nat.mul_assoc]
          omega
        · dsimp only
          rw [e0, Nat.zero_add, Nat.zero_add, ← Nat.mul_add, Nat.mul_mod_right]
        · dsimp only
          have e3 : v * (q + b32 ^ a * d) ≤ U := by
            have e2 : v * (q + b32 ^ a * d) = v * q + b32 ^ a * (d * v) := by rw [Nat.mul_add, Nat.mul_comm v (b32 ^ a * d), Nat.mul_assoc]
            omega
          have e4 : 1 * (q + b32 ^ a * d) ≤ v * (q + b32 ^ a * d) := Nat.mul_le_mul_right _ hv0
          omega
      have hd0 : 0 < dgt v (n - 1) := by omega
      have g5 : rT u a n / dgt v (n - 1) ≤ b32 + 1 := g4
      have han : a + n < 17 := by omega
      have i1 : IntKind.wrap .i64 ((a : Int) + (n : Int)) = ((a + n : Nat) : Int) := wrapi_add (by omega)
      have i2 : IntKind.wrap .i64 (((a + n : Nat) : Int) - 1) = ((a + n - 1 : Nat) : Int) := wrapi_sub (b := 1) (by omega) (by omega)
      have i3 : IntKind.wrap .i64 ((n : Int) - 1) = ((n - 1 : Nat) : Int) := wrapi_sub (b := 1) (by omega) (by omega)
      have t1 := dgt_lt u (a + n)
      have t2 : dgt u (a + n - 1) < 2 ^ 32 := dgt_lt u (a + n - 1)
      have hT : rT u a n < 18446744073709551616 := by unfold rT; rw [hB] at t1 ⊢; omega
      have i4 : ior .u64 (ishl .u64 ((dgt u (a + n) : Nat) : Int) 32) ((dgt u (a + n - 1) : Nat) : Int) = ((rT u a n : Nat) : Int) := by
        rw [show (32 : Int) = ((32 : Nat) : Int) from rfl, ishl_fit (by omega) (by omega), ior_nat (by omega) (by omega), or_shift t2]
        rfl
      have i5 : IntKind.wrap .u64 (((rT u a n / dgt v (n - 1) : Nat)) : Int) = ((rT u a n / dgt v (n - 1) : Nat) : Int) := wrap_id (Nat.lt_of_le_of_lt (Nat.div_le_self _ _) hT)
      obtain ⟨_, w1⟩ := ls_ok (u / b32 ^ a) v (gAt u v a n) n
      obtain ⟨c1, c2⟩ := mc_ls (u / b32 ^ a) v (gAt u v a n) n
      have hL := ls_lt (W := u / b32 ^ a) (v := v) (i := n) g3
      have hD := dgt_lt (u / b32 ^ a) n
      obtain ⟨L, hLe⟩ : ∃ L, L = lsB (u / b32 ^ a) v (gAt u v a n) n := ⟨_, rfl⟩
      obtain ⟨C, hCe⟩ : ∃ C, C = mcC v (gAt u v a n) n := ⟨_, rfl⟩
      have i6 : IntKind.wrap .u64 (IntKind.wrap .u64 (IntKind.wrap .u64 (((dgt (u / b32 ^ a) n : Nat) : Int) + 4294967296) - ((mcC v (gAt u v a n) n : Nat) : Int)) - ((lsB (u / b32 ^ a) v (gAt u v a n) n - mcC v (gAt u v a n) n : Nat) : Int)) = ((dgt (u / b32 ^ a) n + b32 - L : Nat) : Int) := by
        rw [hLe]; exact x_math hD c1 hL
      have i7 : iand .u64 ((dgt (u / b32 ^ a) n + b32 - L : Nat) : Int) 4294967295 = (((dgt (u / b32 ^ a) n + b32 - L) % b32 : Nat) : Int) := by
        rw [show (4294967295 : Int) = ((4294967295 : Nat) : Int) from rfl, iand_nat (by omega), and_low32]; rfl
      have i8 : (dg 17 (winY u a (lsW (u / b32 ^ a) v (gAt u v a n) n) (u / b32 ^ a) n)).set (a + n) (((dgt (u / b32 ^ a) n + b32 - L) % b32 : Nat) : Int) = dg 17 (lessY u v (gAt u v a n) a n) := by
        rw [dg_set (Nat.mod_lt _ (show 0 < b32 by decide)), hLe]; rfl
      have k1 : ((decide ((0 : Int) ≤ ((a + n : Nat) : Int))) && (decide (((a + n : Nat) : Int) < (17 : Int)))) = true := inN (m := 17) han
      have k2 := bleN (m := 17) han
      have k3 : ((decide ((0 : Int) ≤ ((a + n - 1 : Nat) : Int))) && (decide (((a + n - 1 : Nat) : Int) < (17 : Int)))) = true := inN (m := 17) (show a + n - 1 < 17 by omega)
      have k4 := bleN (m := 17) (show a + n - 1 < 17 by omega)
      have k5 : ((decide ((0 : Int) ≤ ((n - 1 : Nat) : Int))) && (decide (((n - 1 : Nat) : Int) < (8 : Int)))) = true := inN (m := 8) (show n - 1 < 8 by omega)
      have k6 := bleN (m := 8) (show n - 1 < 8 by omega)
      have k7 : ((decide ((0 : Int) ≤ (a : Int))) && (decide ((a : Int) < (16 : Int)))) = true := inN (m := 16) (show a < 16 by omega)
      have k8 := bleN (m := 16) (show a < 16 by omega)
      have k9 : (!(decide (((dgt v (n - 1) : Nat) : Int) = 0))) = true := by simp; omega
      refine ⟨rlX5 x y n s v u q a hn hn8 han hd0 g5 g3, ?_⟩
      rw [ha, rl5_body]
      simp only [i1, i2, i3, toNat_c, dg_getD han, dg_getD (show a + n - 1 < 17 by omega), dg_getD (show n - 1 < 8 by omega), i4, tdiv_nat, tmod_nat, i5, win_dgt w1, i6, i7, i8]
      refine ⟨fun _ => ?_, fun hc => ?_⟩
      rotate_left
      · simp at hc
      repeat (with_reducible refine need_i (by first | with_reducible rfl | with_reducible assumption | with_reducible exact beq_self_eq_true _) ?_)
      refine ⟨fun hl => ?_, fun hl => ?_⟩
      · -- it was one too much
        have hl' : dgt (u / b32 ^ a) n < L := by
          rw [ishr_32] at hl
          have : (dgt (u / b32 ^ a) n + b32 - L) / 4294967296 = 0 := Int.natCast_eq_zero.1 (eq_of_beq hl)
          omega
        have hgt : u / b32 ^ a < gAt u v a n * v := by
          refine Nat.lt_of_not_le fun hle => ?_
          have := (r1 hle).1
          unfold lessU at this
          rw [← hLe] at this
          simp at this; omega
        obtain ⟨_, y1, y2⟩ := r2 hgt
        have hd : gAt u v a n - 1 = Q := by
          have : ¬ gAt u v a n = Q := fun e => by rw [e] at hgt; omega
          omega
        have hg1 : 1 ≤ gAt u v a n := by
          rcases Nat.eq_zero_or_pos (gAt u v a n) with h | h
          · rw [h, Nat.zero_mul] at hgt; exact absurd hgt (Nat.not_lt_zero _)
          · exact h
        obtain ⟨k10, k11⟩ := fin _ hd
        have i9 : IntKind.wrap .u64 (((gAt u v a n : Nat) : Int) - 1) = ((gAt u v a n - 1 : Nat) : Int) := wrap_sub_u64 (b := 1) hg1 (Nat.lt_trans g3 (by decide))
        obtain ⟨u', hu'⟩ : ∃ u', u' = lessY u v (gAt u v a n) a n := ⟨_, rfl⟩
        rw [← hu'] at y2 ⊢
        have w2 : mrW (u' / b32 ^ a) v n < b32 ^ n := Nat.mod_lt _ (b32_pos n)
        have m1 := mrC_le (u' / b32 ^ a) v n
        have m2 := dgt_lt (u' / b32 ^ a) n
        have i10 : iand .u64 (IntKind.wrap .u64 (((dgt (u' / b32 ^ a) n : Nat) : Int) + ((mrC (u' / b32 ^ a) v n : Nat) : Int))) 4294967295 = (((dgt (u' / b32 ^ a) n + mrC (u' / b32 ^ a) v n) % b32 : Nat) : Int) := by
          rw [wrap_add (by omega), show (4294967295 : Int) = ((4294967295 : Nat) : Int) from rfl, iand_nat (by omega), and_low32]; rfl
        have i11 : (dg 17 (winY u' a (mrW (u' / b32 ^ a) v n) (u' / b32 ^ a) n)).set (a + n) (((dgt (u' / b32 ^ a) n + mrC (u' / b32 ^ a) v n) % b32 : Nat) : Int) = dg 17 (moreY u' v a n) := by
          rw [dg_set (Nat.mod_lt _ (show 0 < b32 by decide))]; rfl
        simp only [i9, win_dgt w2, i10, i11, y2]
        repeat (with_reducible refine need_i (by first | with_reducible rfl | with_reducible assumption | with_reducible exact beq_self_eq_true _) ?_)
        exact ⟨(a, _, _), k11, by dsimp only; omega, k10⟩
      · have hl' : ¬ dgt (u / b32 ^ a) n < L := by
          rw [ishr_32] at hl
          intro h
          have : (dgt (u / b32 ^ a) n + b32 - L) / 4294967296 = 0 := by omega
          rw [this] at hl; simp at hl
        have hle : gAt u v a n * v ≤ u / b32 ^ a := by
          refine Nat.le_of_not_lt fun hgt => ?_
          have := (r2 hgt).1
          unfold lessU at this
          rw [← hLe] at this
          simp at this; omega
        rw [(r1 hle).2]
        have hd : gAt u v a n = Q := by
          have : gAt u v a n * v < (Q + 1) * v := by rw [Nat.mul_comm (Q + 1)]; omega
          have := lt_of_mul this
          omega
        obtain ⟨k10, k11⟩ := fin _ hd
        repeat (with_reducible refine need_i (by first | with_reducible rfl | with_reducible assumption | with_reducible exact beq_self_eq_true _) ?_)
        exact ⟨(a, _, _), k11, by dsimp only; omega, k10⟩
    · refine ⟨rlXe, ?_⟩
      rw [show ((0 : Nat) : Int) - 1 = -1 from rfl, rl5_end]
      refine ⟨fun hc => absurd hc (by decide), fun _ => ?_⟩
      rw [Nat.pow_zero, Nat.mul_one] at h2
      have e1 : U / v = q := by rw [← h3, Nat.add_mul_div_left _ _ hv0, Nat.div_eq_of_lt h2, Nat.zero_add]
      have e2 : U % v = u := by rw [← h3, Nat.add_mul_mod_self_left, Nat.mod_eq_of_lt h2]
      rw [e1, e2]
      exact ⟨rfl, rfl⟩
  · have : ((17 - n : Nat) : Int) - 1 = (16 : Int) - n := by omega
    dsimp only
    rw [this]
    exact Sim.refl _

end Go.Proofs.Ytakmgioeldbkcaa

/- Contracts: long division by the document (truceref02.long): the last loop. -/
namespace Go.Proofs.Ytakmgioeldbkcaa
open Go Go.RowKit
noncomputable def rz_st (x : Nat) (y : Nat) (n : Nat) (s : Nat) (v : Nat) (u q o : List Int) (a : Int) : KS := ⟨⟨pat' [(4, (.ptr 2 [])), (5, (.ptr 3 [])), (6, (.ptr 4 [])), (7, (.ptr 5 [])), (8, (.int .i64 ((n : Nat) : Int))), (12, (.int .u64 ((s : Nat) : Int))), (13, (.ptr 6 [])), (15, (.ptr 14 [])), (29, (.int .i64 a))] 0 311, [(some ⟨78, (.ints .u64 16 (dg 16 x)), true⟩), (some ⟨79, (.ints .u64 8 (dg 8 y)), true⟩), (some ⟨78, (.ints .u64 16 (dg 16 0)), true⟩), (some ⟨79, (.ints .u64 8 (dg 8 0)), true⟩), (some ⟨78, (.ints .u64 16 q), true⟩), (some ⟨79, (.ints .u64 8 o), true⟩), (some ⟨79, (.ints .u64 8 (dg 8 v)), true⟩), none, none, none, none, none, none, none, (some ⟨72, (.ints .u64 17 u), true⟩)], 15⟩, kpat [4, 5, 6, 7, 13, 15] 0 311, [false, false, true, true, true, true, false, false, false, false, false, false, false, false, false]⟩
theorem rz_body (x : Nat) (y : Nat) (n : Nat) (s : Nat) (v : Nat) (u : Nat) (q : Nat) (o : Nat) (i : Int) : stepT rlX 100 fi_truceref02_long [0, 1, 0, 1, 1, 1, 1, 1, 1, 1, 1, 1, 1, 1, 1, 1, 1, 1, 1] [4, 5, 6, 7, 8, 12, 13, 15, 29] 15 (kpat [4, 5, 6, 7, 13, 15] 0 311) [false, false, true, true, true, true, false, false, false, false, false, false, false, false, false] (rz_st x y n s v (dg 17 u) (dg 16 q) (dg 8 o) i) =
    (.ite (decide (i < ((n : Nat) : Int)))
     (.need ((decide ((0 : Int) ≤ i)) && (decide (i < (17 : Int))))
     (.need (Nat.ble ((Int.toNat i) + 1) 17)
     (.need (decide ((0 : Int) ≤ ((s : Nat) : Int)))
     (.need ((decide ((0 : Int) ≤ (IntKind.wrap .i64 (i + (1 : Int))))) && (decide ((IntKind.wrap .i64 (i + (1 : Int))) < (17 : Int))))
     (.need (Nat.ble ((Int.toNat (IntKind.wrap .i64 (i + (1 : Int)))) + 1) 17)
     (.need (decide ((0 : Int) ≤ ((s : Nat) : Int)))
     (.need ((decide ((0 : Int) ≤ i)) && (decide (i < (8 : Int))))
     (.need (Nat.ble ((Int.toNat i) + 1) 8)
     (.leaf (.normal, rz_st x y n s v (dg 17 u) (dg 16 q) (List.set (dg 8 o) (Int.toNat i) (iand .u64 (ior .u64 (ishr .u64 (List.getD (dg 17 u) (Int.toNat i) (0 : Int)) ((s : Nat) : Int)) (ishr .u64 (ishl .u64 (List.getD (dg 17 u) (Int.toNat (IntKind.wrap .i64 (i + (1 : Int)))) (0 : Int)) (32 : Int)) ((s : Nat) : Int))) (4294967295 : Int))) (IntKind.wrap .i64 (i + (1 : Int)))))))))))))
     (.leaf ((.exit 16), rz_st x y n s v (dg 17 u) (dg 16 q) (dg 8 o) i))) := by kernel_rfl
theorem rz_rule {σ : Type} (st : σ → KS) (Inv : σ → Prop) (μ : σ → Nat) (R : Ex → St → Prop) (hH : ∀ v, (st v).s.H.length ≤ 15) (hstep : ∀ v, Inv v → ∃ X : EnvT Try.prog, (stepT X 100 fi_truceref02_long [0, 1, 0, 1, 1, 1, 1, 1, 1, 1, 1, 1, 1, 1, 1, 1, 1, 1, 1] [4, 5, 6, 7, 8, 12, 13, 15, 29] 15 (kpat [4, 5, 6, 7, 13, 15] 0 311) [false, false, true, true, true, true, false, false, false, false, false, false, false, false, false] (st v)).holds (Round st Inv μ R v)) (v0 : σ) (h0 : Inv v0) : CodeR Try.prog (.loop (loopAt fi_truceref02_long [0, 1, 0, 1, 1, 1, 1, 1, 1, 1, 1, 1, 1, 1, 1, 1, 1, 1, 1])) (st v0).s R :=
  loop_rule mixed fi_truceref02_long [0, 1, 0, 1, 1, 1, 1, 1, 1, 1, 1, 1, 1, 1, 1, 1, 1, 1, 1] [4, 5, 6, 7, 8, 12, 13, 15, 29] 15 (kpat [4, 5, 6, 7, 13, 15] 0 311) [false, false, true, true, true, true, false, false, false, false, false, false, false, false, false] st 100 Inv μ R (loop_sub' (c := loopAt fi_truceref02_long [0, 1, 0, 1, 1, 1, 1, 1, 1, 1, 1, 1, 1, 1, 1, 1, 1, 1, 1]) (by kernel_rfl)) hH hstep v0 h0
theorem rzSub : subC fi_truceref02_long.body [0, 1, 0, 1, 1, 1, 1, 1, 1, 1, 1, 1, 1, 1, 1, 1, 1, 1, 1] = some (.loop (loopAt fi_truceref02_long [0, 1, 0, 1, 1, 1, 1, 1, 1, 1, 1, 1, 1, 1, 1, 1, 1, 1, 1])) := loop_sub' (c := loopAt fi_truceref02_long [0, 1, 0, 1, 1, 1, 1, 1, 1, 1, 1, 1, 1, 1, 1, 1, 1, 1, 1]) (by kernel_rfl)

theorem down2_math {d d1 s : Nat} (hs : s < 32) (hd : d < b32) (hd1 : d1 < b32) :
    iand .u64 (ior .u64 (ishr .u64 (d : Int) (s : Int)) (ishr .u64 (ishl .u64 (d1 : Int) 32) (s : Int))) 4294967295 = ((d / 2 ^ s + d1 * 2 ^ (32 - s) % b32 : Nat) : Int) := by
  have h2 : 0 < 2 ^ s := Nat.pow_pos (by decide)
  have hb : b32 = 2 ^ s * 2 ^ (32 - s) := by rw [← Nat.pow_add, show s + (32 - s) = 32 by omega]; rfl
  have l1 : d / 2 ^ s < 2 ^ (32 - s) := by rw [Nat.div_lt_iff_lt_mul h2, Nat.mul_comm, ← hb]; exact hd
  have l2 := (down_math hs hd hd1).2
  have l3 : d1 * 2 ^ (32 - s) ≤ 4294967295 * 4294967296 := Nat.mul_le_mul (by unfold b32 at hd1; omega) (by
    have : 2 ^ (32 - s) ≤ 2 ^ 32 := Nat.pow_le_pow_right (by decide) (by omega)
    exact this)
  have l4 : d / 2 ^ s ≤ d := Nat.div_le_self _ _
  have l5 : d1 * 2 ^ 32 ≤ 4294967295 * 4294967296 := Nat.mul_le_mul (by unfold b32 at hd1; omega) (by decide)
  have e1 : d1 * 2 ^ 32 / 2 ^ s = d1 * 2 ^ (32 - s) := by
    have : (2 : Nat) ^ 32 = 2 ^ (32 - s) * 2 ^ s := by rw [← Nat.pow_add]; congr 1; omega
    rw [this, ← Nat.mul_assoc, Nat.mul_div_cancel _ h2]
  have hB : b32 = 4294967296 := rfl
  rw [show (32 : Int) = ((32 : Nat) : Int) from rfl, ishl_fit (by omega) (by omega), ishr_nat _ _ (by omega), ishr_nat _ _ (by omega), e1, ior_nat (by omega) (by omega), or_shift' l1,
    show (4294967295 : Int) = ((4294967295 : Nat) : Int) from rfl, iand_nat (by omega), and_low32]
  generalize d1 * 2 ^ (32 - s) = X at *
  generalize d / 2 ^ s = A at *
  have : (A + X) % 4294967296 = A + X % 4294967296 := by rw [hB] at l2; omega
  rw [this, hB]
theorem rz_loop (x y n s v u q : Nat) (hn8 : n ≤ 8) (hs : s < 32) (hu : u < b32 ^ n) : CodeR Try.prog (.loop (loopAt fi_truceref02_long [0, 1, 0, 1, 1, 1, 1, 1, 1, 1, 1, 1, 1, 1, 1, 1, 1, 1, 1])) (rz_st x y n s v (dg 17 u) (dg 16 q) (dg 8 0) 0).s
    (fun e s' => e = .exit 16 ∧ s' = (rz_st x y n s v (dg 17 u) (dg 16 q) (dg 8 (u / 2 ^ s)) n).s) := by
  refine CodeR.of_sim (rz_rule (σ := Nat) (fun i => rz_st x y n s v (dg 17 u) (dg 16 q) (dg 8 (u / 2 ^ s % b32 ^ i)) (i : Nat)) (fun i => i ≤ n) (fun i => n - i) _ (fun _ => Nat.le_refl 15) ?_ 0 (by omega)) ?_
  · intro i hi
    refine ⟨rlX, ?_⟩
    rw [rz_body]
    refine ⟨fun hc => ?_, fun hc => ?_⟩
    · have hi : i < n := by simp at hc; omega
      have e1 : IntKind.wrap .i64 ((i : Int) + 1) = ((i + 1 : Nat) : Int) := wrapi_one (by omega)
      have hdn : dgt (u / 2 ^ s) i = dgt u i / 2 ^ s + dgt u (i + 1) * 2 ^ (32 - s) % b32 := by
        have h := down_dgt (x := u) (s := s) (i := i) (n := n) hs
        rw [Nat.mod_eq_of_lt hu, if_pos hi] at h
        rw [h]
        split
        · rfl
        · have : dgt u (i + 1) = 0 := by
            unfold dgt
            rw [Nat.div_eq_of_lt (Nat.lt_of_lt_of_le hu (pow_le32 (by omega)))]; rfl
          rw [this, Nat.zero_mul]; rfl
      simp only [e1, toNat_c, dg_getD (show i < 17 by omega), dg_getD (show i + 1 < 17 by omega), down2_math hs (dgt_lt u i) (dgt_lt u (i + 1))]
      refine ⟨inN (m := 17) (by omega), bleN (by omega), by simp, inN (m := 17) (by omega), bleN (by omega), by simp, inN (m := 8) (by omega), bleN (by omega), i + 1, by omega, by dsimp only; omega, Sim.of_eq ?_⟩
      rw [← hdn, dg_set (dgt_lt _ _), dset_low]
    · have hi : i = n := by simp at hc; omega
      subst hi
      refine ⟨rfl, ?_⟩
      rw [Nat.mod_eq_of_lt (Nat.lt_of_le_of_lt (Nat.div_le_self _ _) hu)]
  · rw [Nat.pow_zero, Nat.mod_one]; exact Sim.refl _
end Go.Proofs.Ytakmgioeldbkcaa

/- Contracts: long division by the document (truceref02.long): its loops' laws together. -/
namespace Go.Proofs.Ytakmgioeldbkcaa
open Go Go.RowKit
noncomputable def rl5LC (x y U v n s : Nat) (hn : 2 ≤ n) (hn8 : n ≤ 8) (hv : v < b32 ^ n) (htop : 2147483648 ≤ dgt v (n - 1)) (hU : U < b32 ^ 17) (hUv : U < v * b32 ^ (17 - n)) : LCT Try.prog :=
  LCT.one fi_truceref02_long [0, 1, 0, 1, 1, 1, 1, 1, 1, 1, 1, 1, 1, 1, 1, 1, 1, 1] _ _ (rl5_st x y n s v (dg 17 (U % v)) (dg 16 (U / v)) (-1)) rl5Sub (rl5_loop x y U v n s hn hn8 hv htop hU hUv)
noncomputable def rzLC (x y n s v u q : Nat) (hn8 : n ≤ 8) (hs : s < 32) (hu : u < b32 ^ n) : LCT Try.prog :=
  LCT.one fi_truceref02_long [0, 1, 0, 1, 1, 1, 1, 1, 1, 1, 1, 1, 1, 1, 1, 1, 1, 1, 1] _ _ (rz_st x y n s v (dg 17 u) (dg 16 q) (dg 8 (u / 2 ^ s)) n) rzSub (rz_loop x y n s v u q hn8 hs hu)
noncomputable def rlXa (x y : Nat) (hx : x < b32 ^ 16) (hd : 0 < dgt y 0) : EnvT Try.prog :=
  { rlX with lcs := [rl1LC x y 1 hx hd, LCT.bad 106 [0, 0, 1, 1, 1, 1, 1, 1, 1]] }
noncomputable def rlXz : EnvT Try.prog := { rlX with lcs := [LCT.bad 106 [0, 1, 0, 1, 0, 1, 0, 1, 1, 1, 1, 1], LCT.bad 106 [0, 0, 1, 1, 1, 1, 1, 1, 1]] }
noncomputable def rlXb (x y n s v U : Nat) (hn : 2 ≤ n) (hn8 : n ≤ 8) (h0 : dgt y (n - 1) ≠ 0) (hs : s < 32) (hY : y * 2 ^ s < b32 ^ n) (hv : v < b32 ^ n) (htop : 2147483648 ≤ dgt v (n - 1)) (hU : U < b32 ^ 17) (hUv : U < v * b32 ^ (17 - n)) (hu : U % v < b32 ^ n) : EnvT Try.prog :=
  { rlX with lcs := [LCT.bad 106 [0, 1, 0, 1, 0, 1, 0, 1, 1, 1, 1, 1], rl2LC x y n (by omega) hn8 h0, rl3LC x y n s (by omega) hn8 hs hY, rl4LC x y n s v hs, rl5LC x y U v n s hn hn8 hv htop hU hUv, rzLC x y n s v (U % v) (U / v) hn8 hs hu] }
end Go.Proofs.Ytakmgioeldbkcaa

/- Contracts: long division by the document (truceref02.long): its trees. -/
namespace Go.Proofs.Ytakmgioeldbkcaa
open Go Go.RowKit
theorem rlz_tree (x y : Nat) : (callT (rlXz) (execT (rlXz) 100) 106 [(.ints .u64 16 (dg 16 x)), (.ints .u64 8 (dg 8 y))] [] [] 0 []).map CR.v =
    (.need ((dg 8 y) == (dg 8 (valI (dg 8 y))))
    (.ite ((((nd (valI (dg 8 y)) 8) : Nat) : Int) == (0 : Int))
     (.leaf (.tup [(.ints .u64 16 [(0 : Int), (0 : Int), (0 : Int), (0 : Int), (0 : Int), (0 : Int), (0 : Int), (0 : Int), (0 : Int), (0 : Int), (0 : Int), (0 : Int), (0 : Int), (0 : Int), (0 : Int), (0 : Int)]), (.ints .u64 8 [(0 : Int), (0 : Int), (0 : Int), (0 : Int), (0 : Int), (0 : Int), (0 : Int), (0 : Int)])]))
     (.ite ((((nd (valI (dg 8 y)) 8) : Nat) : Int) == (1 : Int))
      .bad
      .bad))) := by kernel_rfl
theorem rla_tree (x y : Nat) (hx : x < b32 ^ 16) (hd : 0 < dgt y 0) : (callT (rlXa x y hx hd) (execT (rlXa x y hx hd) 100) 106 [(.ints .u64 16 (dg 16 x)), (.ints .u64 8 (dg 8 y))] [] [] 0 []).map CR.v =
    (.need ((dg 8 y) == (dg 8 (valI (dg 8 y))))
    (.ite ((((nd (valI (dg 8 y)) 8) : Nat) : Int) == (0 : Int))
     (.leaf (.tup [(.ints .u64 16 [(0 : Int), (0 : Int), (0 : Int), (0 : Int), (0 : Int), (0 : Int), (0 : Int), (0 : Int), (0 : Int), (0 : Int), (0 : Int), (0 : Int), (0 : Int), (0 : Int), (0 : Int), (0 : Int)]), (.ints .u64 8 [(0 : Int), (0 : Int), (0 : Int), (0 : Int), (0 : Int), (0 : Int), (0 : Int), (0 : Int)])]))
     (.ite ((((nd (valI (dg 8 y)) 8) : Nat) : Int) == (1 : Int))
      (.need ((1 : Int) == (((nd (valI (dg 8 y)) 8) : Nat) : Int))
      (.need true
      (.need true
      (.need ((dg 16 x) == (dg 16 x))
      (.need ((dg 8 y) == (dg 8 y))
      (.need true
      (.need true
      (.need true
      (.need true
      (.need true
      (.leaf (.tup [(.ints .u64 16 (dg 16 (x / (dgt y 0)))), (.ints .u64 8 [(((x % (dgt y 0)) : Nat) : Int), (0 : Int), (0 : Int), (0 : Int), (0 : Int), (0 : Int), (0 : Int), (0 : Int)])]))))))))))))
      .bad))) := by kernel_rfl
theorem rlb_tree (x y n s v U : Nat) (hn : 2 ≤ n) (hn8 : n ≤ 8) (h0 : dgt y (n - 1) ≠ 0) (hs : s < 32) (hY : y * 2 ^ s < b32 ^ n) (hv : v < b32 ^ n) (htop : 2147483648 ≤ dgt v (n - 1)) (hU : U < b32 ^ 17) (hUv : U < v * b32 ^ (17 - n)) (hu : U % v < b32 ^ n) : (callT (rlXb x y n s v U hn hn8 h0 hs hY hv htop hU hUv hu) (execT (rlXb x y n s v U hn hn8 h0 hs hY hv htop hU hUv hu) 100) 106 [(.ints .u64 16 (dg 16 x)), (.ints .u64 8 (dg 8 y))] [] [] 0 []).map CR.v =
    (.need ((dg 8 y) == (dg 8 (valI (dg 8 y))))
    (.ite ((((nd (valI (dg 8 y)) 8) : Nat) : Int) == (0 : Int))
     (.leaf (.tup [(.ints .u64 16 [(0 : Int), (0 : Int), (0 : Int), (0 : Int), (0 : Int), (0 : Int), (0 : Int), (0 : Int), (0 : Int), (0 : Int), (0 : Int), (0 : Int), (0 : Int), (0 : Int), (0 : Int), (0 : Int)]), (.ints .u64 8 [(0 : Int), (0 : Int), (0 : Int), (0 : Int), (0 : Int), (0 : Int), (0 : Int), (0 : Int)])]))
     (.ite ((((nd (valI (dg 8 y)) 8) : Nat) : Int) == (1 : Int))
      .bad
      (.need (((n : Nat) : Int) == (((nd (valI (dg 8 y)) 8) : Nat) : Int))
      (.need true
      (.need ((dg 16 x) == (dg 16 x))
      (.need ((dg 8 y) == (dg 8 y))
      (.need true
      (.need true
      (.need true
      (.need true
      (.need true
      (.need (((n : Nat) : Int) == ((n : Nat) : Int))
      (.need (((s : Nat) : Int) == (((nsh (dgt y (n - 1))) : Nat) : Int))
      (.need ((((n - 1) : Nat) : Int) == (IntKind.wrap .i64 (((n : Nat) : Int) - (1 : Int))))
      (.need ((dg 16 x) == (dg 16 x))
      (.need ((dg 8 y) == (dg 8 y))
      (.need true
      (.need true
      (.need true
      (.need true
      (.need true
      (.need true
      (.need (decide ((0 : Int) ≤ ((s : Nat) : Int)))
      (.need (decide ((0 : Int) ≤ ((s : Nat) : Int)))
      (.need (((n : Nat) : Int) == ((n : Nat) : Int))
      (.need (((s : Nat) : Int) == ((s : Nat) : Int))
      (.need true
      (.need ((dg 16 x) == (dg 16 x))
      (.need ((dg 8 y) == (dg 8 y))
      (.need true
      (.need true
      (.need true
      (.need true
      (.need ((dg 8 v) == [(iand .u64 (ishl .u64 (((dgt y 0) : Nat) : Int) ((s : Nat) : Int)) (4294967295 : Int)), (((dgt (b32 * ((y * (2 ^ s)) / b32)) 1) : Nat) : Int), (((dgt (b32 * ((y * (2 ^ s)) / b32)) 2) : Nat) : Int), (((dgt (b32 * ((y * (2 ^ s)) / b32)) 3) : Nat) : Int), (((dgt (b32 * ((y * (2 ^ s)) / b32)) 4) : Nat) : Int), (((dgt (b32 * ((y * (2 ^ s)) / b32)) 5) : Nat) : Int), (((dgt (b32 * ((y * (2 ^ s)) / b32)) 6) : Nat) : Int), (((dgt (b32 * ((y * (2 ^ s)) / b32)) 7) : Nat) : Int)])
      (.need ((dg 17 (13407807929942597099574024998205846127479365820592393377723561443721764030073546976801874298166903427690031858186486050853753882811946569946433649006084096 * ((x * (2 ^ s)) / 13407807929942597099574024998205846127479365820592393377723561443721764030073546976801874298166903427690031858186486050853753882811946569946433649006084096))) == [(0 : Int), (0 : Int), (0 : Int), (0 : Int), (0 : Int), (0 : Int), (0 : Int), (0 : Int), (0 : Int), (0 : Int), (0 : Int), (0 : Int), (0 : Int), (0 : Int), (0 : Int), (0 : Int), (ishr .u64 (ishl .u64 (((dgt x 15) : Nat) : Int) ((s : Nat) : Int)) (32 : Int))])
      (.need true
      (.need (decide ((0 : Int) ≤ ((s : Nat) : Int)))
      (.need (((n : Nat) : Int) == ((n : Nat) : Int))
      (.need (((s : Nat) : Int) == ((s : Nat) : Int))
      (.need (((16 : Int) - ((n : Nat) : Int)) == (IntKind.wrap .i64 ((16 : Int) - ((n : Nat) : Int))))
      (.need ((dg 16 x) == (dg 16 x))
      (.need ((dg 8 y) == (dg 8 y))
      (.need true
      (.need true
      (.need true
      (.need true
      (.need ((dg 8 v) == (dg 8 v))
      (.need ((dg 17 U) == [(iand .u64 (ishl .u64 (((dgt x 0) : Nat) : Int) ((s : Nat) : Int)) (4294967295 : Int)), (((dgt (b32 * ((x * (2 ^ s)) / b32)) 1) : Nat) : Int), (((dgt (b32 * ((x * (2 ^ s)) / b32)) 2) : Nat) : Int), (((dgt (b32 * ((x * (2 ^ s)) / b32)) 3) : Nat) : Int), (((dgt (b32 * ((x * (2 ^ s)) / b32)) 4) : Nat) : Int), (((dgt (b32 * ((x * (2 ^ s)) / b32)) 5) : Nat) : Int), (((dgt (b32 * ((x * (2 ^ s)) / b32)) 6) : Nat) : Int), (((dgt (b32 * ((x * (2 ^ s)) / b32)) 7) : Nat) : Int), (((dgt (b32 * ((x * (2 ^ s)) / b32)) 8) : Nat) : Int), (((dgt (b32 * ((x * (2 ^ s)) / b32)) 9) : Nat) : Int), (((dgt (b32 * ((x * (2 ^ s)) / b32)) 10) : Nat) : Int), (((dgt (b32 * ((x * (2 ^ s)) / b32)) 11) : Nat) : Int), (((dgt (b32 * ((x * (2 ^ s)) / b32)) 12) : Nat) : Int), (((dgt (b32 * ((x * (2 ^ s)) / b32)) 13) : Nat) : Int), (((dgt (b32 * ((x * (2 ^ s)) / b32)) 14) : Nat) : Int), (((dgt (b32 * ((x * (2 ^ s)) / b32)) 15) : Nat) : Int), (((dgt (b32 * ((x * (2 ^ s)) / b32)) 16) : Nat) : Int)])
      (.need true
      (.need (((n : Nat) : Int) == ((n : Nat) : Int))
      (.need (((s : Nat) : Int) == ((s : Nat) : Int))
      (.need true
      (.need ((dg 16 x) == (dg 16 x))
      (.need ((dg 8 y) == (dg 8 y))
      (.need true
      (.need true
      (.need ((dg 16 (U / v)) == (dg 16 (U / v)))
      (.need true
      (.need ((dg 8 v) == (dg 8 v))
      (.need ((dg 17 (U % v)) == (dg 17 (U % v)))
      (.need true
      (.leaf (.tup [(.ints .u64 16 (dg 16 (U / v))), (.ints .u64 8 (dg 8 ((U % v) / (2 ^ s))))])))))))))))))))))))))))))))))))))))))))))))))))))))))))))))))))) := by kernel_rfl
end Go.Proofs.Ytakmgioeldbkcaa

/- Contracts: long division by the document (truceref02.long): its law. -/
namespace Go.Proofs.Ytakmgioeldbkcaa
open Go Go.RowKit
theorem low_digit {x s : Nat} (hs : s < 32) : iand .u64 (ishl .u64 ((dgt x 0 : Nat) : Int) (s : Int)) 4294967295 = ((dgt (x * 2 ^ s) 0 : Nat) : Int) := by
  have hd := dgt_lt x 0
  have h2 : 2 ^ s ≤ 2 ^ 32 := Nat.pow_le_pow_right (by decide) (by omega)
  have l : dgt x 0 * 2 ^ s ≤ 4294967295 * 2 ^ 32 := Nat.mul_le_mul (by unfold b32 at hd; omega) h2
  rw [ishl_fit (by omega) (by omega), show (4294967295 : Int) = ((4294967295 : Nat) : Int) from rfl, iand_nat (by omega), and_low32, up_dgt1]
  rfl
theorem set0 (m z : Nat) : (dg m (b32 * (z / b32))).set 0 ((dgt z 0 : Nat) : Int) = dg m z := by
  rw [dg_set (dgt_lt _ _)]
  have := top_set z 0
  simp only [Nat.zero_add, Nat.pow_one, Nat.pow_zero, Nat.one_mul, Nat.div_one] at this
  rw [this]
theorem high_digit {x s : Nat} (hs : s < 32) (hx : x < b32 ^ 16) (hX : x * 2 ^ s < b32 ^ 17) : (dg 17 0).set 16 (ishr .u64 (ishl .u64 ((dgt x 15 : Nat) : Int) (s : Int)) 32) = dg 17 (b32 ^ 16 * (x * 2 ^ s / b32 ^ 16)) := by
  have hd := dgt_lt x 15
  have h2 : 2 ^ s ≤ 2 ^ 32 := Nat.pow_le_pow_right (by decide) (by omega)
  have l : dgt x 15 * 2 ^ s ≤ 4294967295 * 2 ^ 32 := Nat.mul_le_mul (by unfold b32 at hd; omega) h2
  have h16 : dgt x 16 = 0 := by unfold dgt; rw [Nat.div_eq_of_lt hx]; rfl
  have e : dgt (x * 2 ^ s) 16 = dgt x 15 * 2 ^ s / 4294967296 := by
    rw [up_dgt hs, h16, Nat.zero_mul, Nat.zero_add]
    refine Nat.mod_eq_of_lt ?_
    have hB : b32 = 4294967296 := rfl
    rw [hB]; omega
  rw [ishl_fit (by omega) (by omega), ishr_32, ← e, dg_set (dgt_lt _ _)]
  have := top_set (x * 2 ^ s) 16
  rw [Nat.div_eq_of_lt hX, Nat.mul_zero] at this
  rw [this]
theorem digit8 {r : Nat} (h : r < b32) : [((r : Nat) : Int), (0 : Int), (0 : Int), (0 : Int), (0 : Int), (0 : Int), (0 : Int), (0 : Int)] = dg 8 r := by
  have := dg_set (n := 8) (x := 0) (k := 0) h
  rw [dset_zero] at this
  rw [← this]; rfl
theorem rlong_ok (x y : Nat) (hx : x < b32 ^ 16) (hy : y < b32 ^ 8) : Pure Try.prog 106 [.ints .u64 16 (dg 16 x), .ints .u64 8 (dg 8 y)] (.tup [.ints .u64 16 (dg 16 (x / y)), .ints .u64 8 (dg 8 (remD x y))]) := by
  have hn8 := nd_le y 8
  have hyn := nd_lt 8 hy
  have hB : b32 = 4294967296 := rfl
  have hvy : valI (dg 8 y) = y := dg_mod_n hy
  have k5 : ∀ l : List Int, (l == l) = true := fun l => by simp
  by_cases h2 : 2 ≤ nd y 8
  · have h0 := nd_top 8 (show nd y 8 ≠ 0 by omega)
    obtain ⟨c1, c2, c3, c4⟩ := shift_ok hx h2 (by omega) hyn h0
    have hs : nsh (dgt y (nd y 8 - 1)) < 32 := by unfold nsh; omega
    have hy0 : y ≠ 0 := by
      rintro rfl
      exact h0 (by unfold dgt; simp)
    have hsp : 0 < 2 ^ nsh (dgt y (nd y 8 - 1)) := Nat.pow_pos (by decide)
    have e1 : x * 2 ^ nsh (dgt y (nd y 8 - 1)) % (y * 2 ^ nsh (dgt y (nd y 8 - 1))) = x % y * 2 ^ nsh (dgt y (nd y 8 - 1)) := Nat.mul_mod_mul_right _ _ _
    have hml : x * 2 ^ nsh (dgt y (nd y 8 - 1)) % (y * 2 ^ nsh (dgt y (nd y 8 - 1))) < b32 ^ nd y 8 := Nat.lt_trans (Nat.mod_lt _ (Nat.mul_pos (by omega) hsp)) c1
    refine Pure.by_tree mixed _ 100 _ _ (rlb_tree x y (nd y 8) (nsh (dgt y (nd y 8 - 1))) _ _ h2 hn8 h0 hs c1 c1 c2 c3 c4 hml) ?_
    rw [hvy]
    have o1 := low_digit (x := y) hs
    have o2 := low_digit (x := x) hs
    have o3 := high_digit hs hx c3
    have o4 := set0 8 (y * 2 ^ nsh (dgt y (nd y 8 - 1)))
    have o5 := set0 17 (x * 2 ^ nsh (dgt y (nd y 8 - 1)))
    rw [← o1] at o4
    rw [← o2] at o5
    generalize nd y 8 = n at *
    generalize nsh (dgt y (n - 1)) = s at *
    have k2 : (((n : Nat) : Int) == ((n : Nat) : Int)) = true := by simp
    have k1 : (((s : Nat) : Int) == ((s : Nat) : Int)) = true := by simp
    have k3 : ((16 : Int) - ((n : Nat) : Int) == IntKind.wrap .i64 ((16 : Int) - ((n : Nat) : Int))) = true := by rw [wrap_i64_in (by omega) (by omega)]; simp
    have k4 : ((((n - 1 : Nat) : Int)) == IntKind.wrap .i64 (((n : Nat) : Int) - 1)) = true := by
      rw [show IntKind.wrap .i64 ((n : Int) - 1) = ((n - 1 : Nat) : Int) from wrapi_sub (b := 1) (by omega) (by omega)]; simp
    have k6 : (decide ((0 : Int) ≤ (s : Int))) = true := by simp
    have k7 := beq_iff_eq.2 o3.symm
    have k8 := beq_iff_eq.2 o4.symm
    have k9 := beq_iff_eq.2 o5.symm
    refine ⟨k5 _, fun h => ?_, fun _ => ⟨fun h => ?_, fun _ => ?_⟩⟩
    · exfalso; have := Int.natCast_eq_zero.1 (eq_of_beq h); omega
    · exfalso; have := eq_of_beq h; omega
    · refine ⟨k2, rfl, k5 _, k5 _, rfl, rfl, rfl, rfl, rfl, k2, k1, k4, k5 _, k5 _, rfl, rfl, rfl, rfl, rfl, rfl, k6, k6, k2, k1, rfl, k5 _, k5 _, rfl, rfl, rfl, rfl, k8, k7, rfl, k6, k2, k1, k3, k5 _, k5 _, rfl, rfl, rfl, rfl, k5 _, k9, rfl, k2, k1, rfl, k5 _, k5 _, rfl, rfl, k5 _, rfl, k5 _, k5 _, rfl, SameR.tup2 (SameV.ints ?_) (SameV.ints ?_)⟩
      · rw [Nat.mul_div_mul_right _ _ hsp]
      · rw [e1, Nat.mul_div_cancel _ hsp]
        unfold remD; rw [if_neg hy0]
  · by_cases h1 : nd y 8 = 0
    · refine Pure.by_tree mixed _ 100 _ _ (rlz_tree x y) ?_
      have hz := nd_zero h1 hy
      subst hz
      rw [hvy, h1]
      refine ⟨k5 _, fun _ => ?_, fun h => absurd h (by decide)⟩
      refine SameR.tup2 (SameV.ints ?_) (SameV.ints ?_)
      · rw [Nat.div_zero]; rfl
      · unfold remD; rw [if_pos rfl]; rfl
    · have hn1 : nd y 8 = 1 := by omega
      have h0 := nd_top 8 h1
      rw [hn1] at h0 hyn
      have hyB : y < b32 := by simpa using hyn
      have hd0 : dgt y 0 = y := by unfold dgt; simp [Nat.mod_eq_of_lt hyB]
      simp only [Nat.sub_self] at h0
      have hml : x % y < b32 := Nat.lt_trans (Nat.mod_lt _ (by omega)) hyB
      refine Pure.by_tree mixed _ 100 _ _ (rla_tree x y hx (by omega)) ?_
      rw [hvy, hn1]
      refine ⟨k5 _, fun h => absurd h (by decide), fun _ => ⟨fun _ => ?_, fun h => absurd h (by decide)⟩⟩
      rw [hd0] at h0 ⊢
      refine ⟨rfl, rfl, rfl, k5 _, k5 _, rfl, rfl, rfl, rfl, rfl, SameR.tup2 (SameV.ints rfl) (SameV.ints ?_)⟩
      unfold remD; rw [if_neg h0, digit8 hml]
end Go.Proofs.Ytakmgioeldbkcaa

/- Contracts: long division by the document (truceref02.long): its contract. -/
namespace Go.Proofs.Ytakmgioeldbkcaa
open Go Go.RowKit
noncomputable def c_rlong : Ctr Try.prog := Ctr.of 106 (fun | [.ints .u64 16 l, .ints .u64 8 m] => some ([l == dg 16 (valI l), m == dg 8 (valI m), decide (valI l < b32 ^ 16), decide (valI m < b32 ^ 8)], .tup [.ints .u64 16 (dg 16 (valI l / valI m)), .ints .u64 8 (dg 8 (remD (valI l) (valI m)))]) | _ => none) (by
  intro args ob v h hob
  split at h <;> simp only [Option.some.injEq, Prod.mk.injEq, reduceCtorEq] at h
  rename_i l m
  obtain ⟨rfl, rfl⟩ := h
  have h1 := eq_of_beq (hob (l == dg 16 (valI l)) (by simp))
  have h2 := eq_of_beq (hob (m == dg 8 (valI m)) (by simp))
  have h3 := of_decide_eq_true (hob (decide (valI l < b32 ^ 16)) (by simp))
  have h4 := of_decide_eq_true (hob (decide (valI m < b32 ^ 8)) (by simp))
  have := rlong_ok (valI l) (valI m) h3 h4
  rw [← h1, ← h2] at this
  exact this)
end Go.Proofs.Ytakmgioeldbkcaa

/- Contracts: digits and numbers by the document (truceref01.Digits, Number). -/
namespace Go.Proofs.Ytakmgioeldbkcaa
open Go Go.RowKit
noncomputable def rdig_X : EnvT Try.prog := { fis := [fi_truceref01_Digits] }

theorem rdig_tree (a : BitVec 256) : (callT (rdig_X) (execT (rdig_X) 100) 105 [.u a] [] [] 0 []).map CR.v =
    (.leaf (.ints .u64 8 [(iand .u64 (limb a 0) (4294967295 : Int)), (ishr .u64 (limb a 0) (32 : Int)), (iand .u64 (limb a 1) (4294967295 : Int)), (ishr .u64 (limb a 1) (32 : Int)), (iand .u64 (limb a 2) (4294967295 : Int)), (ishr .u64 (limb a 2) (32 : Int)), (iand .u64 (limb a 3) (4294967295 : Int)), (ishr .u64 (limb a 3) (32 : Int))])) := by kernel_rfl
noncomputable def rnum_X : EnvT Try.prog := { fis := [fi_truceref01_Number] }

theorem rnum_tree (x : Nat) : (callT (rnum_X) (execT (rnum_X) 100) 108 [.ints .u64 8 (dg 8 x)] [] [] 0 []).map CR.v =
    (.leaf (.ints .u64 4 [(ior .u64 (iand .u64 (((dgt x 0) : Nat) : Int) (4294967295 : Int)) (ishl .u64 (((dgt x 1) : Nat) : Int) (32 : Int))), (ior .u64 (iand .u64 (((dgt x 2) : Nat) : Int) (4294967295 : Int)) (ishl .u64 (((dgt x 3) : Nat) : Int) (32 : Int))), (ior .u64 (iand .u64 (((dgt x 4) : Nat) : Int) (4294967295 : Int)) (ishl .u64 (((dgt x 5) : Nat) : Int) (32 : Int))), (ior .u64 (iand .u64 (((dgt x 6) : Nat) : Int) (4294967295 : Int)) (ishl .u64 (((dgt x 7) : Nat) : Int) (32 : Int)))])) := by kernel_rfl
noncomputable def c_rdig : Ctr Try.prog := Ctr.of 105 (fun | [.u a] => some ([], .ints .u64 8 (dg 8 a.toNat)) | _ => none) (by
  intro args ob v h hob
  split at h <;> simp only [Option.some.injEq, Prod.mk.injEq, reduceCtorEq] at h
  rename_i a
  obtain ⟨rfl, rfl⟩ := h
  exact Pure.by_tree mixed _ 100 _ _ (rdig_tree a) (SameV.ints (digs_eq a)).r)
theorem rnum_eq (x : Nat) : [(ior .u64 (iand .u64 (((dgt x 0) : Nat) : Int) (4294967295 : Int)) (ishl .u64 (((dgt x 1) : Nat) : Int) (32 : Int))), (ior .u64 (iand .u64 (((dgt x 2) : Nat) : Int) (4294967295 : Int)) (ishl .u64 (((dgt x 3) : Nat) : Int) (32 : Int))), (ior .u64 (iand .u64 (((dgt x 4) : Nat) : Int) (4294967295 : Int)) (ishl .u64 (((dgt x 5) : Nat) : Int) (32 : Int))), (ior .u64 (iand .u64 (((dgt x 6) : Nat) : Int) (4294967295 : Int)) (ishl .u64 (((dgt x 7) : Nat) : Int) (32 : Int)))]
    = [limb (BitVec.ofNat 256 x) 0, limb (BitVec.ofNat 256 x) 1, limb (BitVec.ofNat 256 x) 2, limb (BitVec.ofNat 256 x) 3] := by
  have key : ∀ k, k < 4 → ior .u64 (iand .u64 ((dgt x (2 * k) : Nat) : Int) 4294967295) (ishl .u64 ((dgt x (2 * k + 1) : Nat) : Int) 32) = limb (BitVec.ofNat 256 x) k := by
    intro k hk
    have h1 : dgt x (2 * k) < 2 ^ 32 := dgt_lt _ _
    have h2 : dgt x (2 * k + 1) < 4294967296 := dgt_lt _ _
    have hl : dgt x (2 * k + 1) * 2 ^ 32 ≤ 4294967295 * 4294967296 := Nat.mul_le_mul (by omega) (by decide)
    have e0 : iand .u64 ((dgt x (2 * k) : Nat) : Int) 4294967295 = ((dgt x (2 * k) : Nat) : Int) := by
      rw [iand_low _ (by omega), Nat.mod_eq_of_lt h1]
    rw [e0, show (32 : Int) = ((32 : Nat) : Int) from rfl, ishl_fit (by omega) (by omega), ior_nat (by omega) (by omega), or_shift' h1, limb_digs]
    have e : ∀ j, j < 8 → dgt (BitVec.ofNat 256 x).toNat j = dgt x j := by
      intro j hj
      rw [BitVec.toNat_ofNat, ← pow8]
      have h3 := congrArg (fun l => List.getD l j 0) (dg_mod 8 x)
      simp only [dg_getD hj] at h3
      exact Int.ofNat_inj.1 h3
    rw [e _ (by omega), e _ (by omega)]
  rw [← key 0 (by omega), ← key 1 (by omega), ← key 2 (by omega), ← key 3 (by omega)]
theorem rnum_ok (x : Nat) : Pure Try.prog 108 [.ints .u64 8 (dg 8 x)] (.u (BitVec.ofNat 256 x)) := Pure.by_tree mixed _ 100 _ _ (rnum_tree x) (SameV.u4 (rnum_eq x)).r
noncomputable def c_rnum : Ctr Try.prog := Ctr.of 108 (fun | [.ints .u64 8 l] => some ([l == dg 8 (valI l)], .u (BitVec.ofNat 256 (valI l))) | _ => none) (by
  intro args ob v h hob
  split at h <;> simp only [Option.some.injEq, Prod.mk.injEq, reduceCtorEq] at h
  rename_i l
  obtain ⟨rfl, rfl⟩ := h
  have h1 := eq_of_beq (hob (l == dg 8 (valI l)) (by simp))
  have := rnum_ok (valI l)
  rw [← h1] at this
  exact this)
noncomputable def rdivX : EnvT Try.prog := { cs := [c_rdig, c_rnum, c_rlong], fis := [fi_truceref02_Div, fi_truceref02_Rest, fi_truceref02_parts] }
end Go.Proofs.Ytakmgioeldbkcaa

/- Contracts: truceref02.Div, truceref02.Rest. -/
namespace Go.Proofs.Ytakmgioeldbkcaa
open Go Go.RowKit
theorem rdiv_tree (a b : BitVec 256) : (callT (rdivX) (execT (rdivX) 100) 55 [.u a, .u b] [] [] 0 []).map CR.v =
    (.need ([(((dgt (BitVec.toNat a) 0) : Nat) : Int), (((dgt (BitVec.toNat a) 1) : Nat) : Int), (((dgt (BitVec.toNat a) 2) : Nat) : Int), (((dgt (BitVec.toNat a) 3) : Nat) : Int), (((dgt (BitVec.toNat a) 4) : Nat) : Int), (((dgt (BitVec.toNat a) 5) : Nat) : Int), (((dgt (BitVec.toNat a) 6) : Nat) : Int), (((dgt (BitVec.toNat a) 7) : Nat) : Int), (0 : Int), (0 : Int), (0 : Int), (0 : Int), (0 : Int), (0 : Int), (0 : Int), (0 : Int)] == (dg 16 (valI [(((dgt (BitVec.toNat a) 0) : Nat) : Int), (((dgt (BitVec.toNat a) 1) : Nat) : Int), (((dgt (BitVec.toNat a) 2) : Nat) : Int), (((dgt (BitVec.toNat a) 3) : Nat) : Int), (((dgt (BitVec.toNat a) 4) : Nat) : Int), (((dgt (BitVec.toNat a) 5) : Nat) : Int), (((dgt (BitVec.toNat a) 6) : Nat) : Int), (((dgt (BitVec.toNat a) 7) : Nat) : Int), (0 : Int), (0 : Int), (0 : Int), (0 : Int), (0 : Int), (0 : Int), (0 : Int), (0 : Int)])))
    (.need ((dg 8 (BitVec.toNat b)) == (dg 8 (valI (dg 8 (BitVec.toNat b)))))
    (.need (decide ((valI [(((dgt (BitVec.toNat a) 0) : Nat) : Int), (((dgt (BitVec.toNat a) 1) : Nat) : Int), (((dgt (BitVec.toNat a) 2) : Nat) : Int), (((dgt (BitVec.toNat a) 3) : Nat) : Int), (((dgt (BitVec.toNat a) 4) : Nat) : Int), (((dgt (BitVec.toNat a) 5) : Nat) : Int), (((dgt (BitVec.toNat a) 6) : Nat) : Int), (((dgt (BitVec.toNat a) 7) : Nat) : Int), (0 : Int), (0 : Int), (0 : Int), (0 : Int), (0 : Int), (0 : Int), (0 : Int), (0 : Int)]) < 13407807929942597099574024998205846127479365820592393377723561443721764030073546976801874298166903427690031858186486050853753882811946569946433649006084096))
    (.need (decide ((valI (dg 8 (BitVec.toNat b))) < 115792089237316195423570985008687907853269984665640564039457584007913129639936))
    (.need ([(((dgt ((valI [(((dgt (BitVec.toNat a) 0) : Nat) : Int), (((dgt (BitVec.toNat a) 1) : Nat) : Int), (((dgt (BitVec.toNat a) 2) : Nat) : Int), (((dgt (BitVec.toNat a) 3) : Nat) : Int), (((dgt (BitVec.toNat a) 4) : Nat) : Int), (((dgt (BitVec.toNat a) 5) : Nat) : Int), (((dgt (BitVec.toNat a) 6) : Nat) : Int), (((dgt (BitVec.toNat a) 7) : Nat) : Int), (0 : Int), (0 : Int), (0 : Int), (0 : Int), (0 : Int), (0 : Int), (0 : Int), (0 : Int)]) / (valI (dg 8 (BitVec.toNat b)))) 8) : Nat) : Int), (((dgt ((valI [(((dgt (BitVec.toNat a) 0) : Nat) : Int), (((dgt (BitVec.toNat a) 1) : Nat) : Int), (((dgt (BitVec.toNat a) 2) : Nat) : Int), (((dgt (BitVec.toNat a) 3) : Nat) : Int), (((dgt (BitVec.toNat a) 4) : Nat) : Int), (((dgt (BitVec.toNat a) 5) : Nat) : Int), (((dgt (BitVec.toNat a) 6) : Nat) : Int), (((dgt (BitVec.toNat a) 7) : Nat) : Int), (0 : Int), (0 : Int), (0 : Int), (0 : Int), (0 : Int), (0 : Int), (0 : Int), (0 : Int)]) / (valI (dg 8 (BitVec.toNat b)))) 9) : Nat) : Int), (((dgt ((valI [(((dgt (BitVec.toNat a) 0) : Nat) : Int), (((dgt (BitVec.toNat a) 1) : Nat) : Int), (((dgt (BitVec.toNat a) 2) : Nat) : Int), (((dgt (BitVec.toNat a) 3) : Nat) : Int), (((dgt (BitVec.toNat a) 4) : Nat) : Int), (((dgt (BitVec.toNat a) 5) : Nat) : Int), (((dgt (BitVec.toNat a) 6) : Nat) : Int), (((dgt (BitVec.toNat a) 7) : Nat) : Int), (0 : Int), (0 : Int), (0 : Int), (0 : Int), (0 : Int), (0 : Int), (0 : Int), (0 : Int)]) / (valI (dg 8 (BitVec.toNat b)))) 10) : Nat) : Int), (((dgt ((valI [(((dgt (BitVec.toNat a) 0) : Nat) : Int), (((dgt (BitVec.toNat a) 1) : Nat) : Int), (((dgt (BitVec.toNat a) 2) : Nat) : Int), (((dgt (BitVec.toNat a) 3) : Nat) : Int), (((dgt (BitVec.toNat a) 4) : Nat) : Int), (((dgt (BitVec.toNat a) 5) : Nat) : Int), (((dgt (BitVec.toNat a) 6) : Nat) : Int), (((dgt (BitVec.toNat a) 7) : Nat) : Int), (0 : Int), (0 : Int), (0 : Int), (0 : Int), (0 : Int), (0 : Int), (0 : Int), (0 : Int)]) / (valI (dg 8 (BitVec.toNat b)))) 11) : Nat) : Int), (((dgt ((valI [(((dgt (BitVec.toNat a) 0) : Nat) : Int), (((dgt (BitVec.toNat a) 1) : Nat) : Int), (((dgt (BitVec.toNat a) 2) : Nat) : Int), (((dgt (BitVec.toNat a) 3) : Nat) : Int), (((dgt (BitVec.toNat a) 4) : Nat) : Int), (((dgt (BitVec.toNat a) 5) : Nat) : Int), (((dgt (BitVec.toNat a) 6) : Nat) : Int), (((dgt (BitVec.toNat a) 7) : Nat) : Int), (0 : Int), (0 : Int), (0 : Int), (0 : Int), (0 : Int), (0 : Int), (0 : Int), (0 : Int)]) / (valI (dg 8 (BitVec.toNat b)))) 12) : Nat) : Int), (((dgt ((valI [(((dgt (BitVec.toNat a) 0) : Nat) : Int), (((dgt (BitVec.toNat a) 1) : Nat) : Int), (((dgt (BitVec.toNat a) 2) : Nat) : Int), (((dgt (BitVec.toNat a) 3) : Nat) : Int), (((dgt (BitVec.toNat a) 4) : Nat) : Int), (((dgt (BitVec.toNat a) 5) : Nat) : Int), (((dgt (BitVec.toNat a) 6) : Nat) : Int), (((dgt (BitVec.toNat a) 7) : Nat) : Int), (0 : Int), (0 : Int), (0 : Int), (0 : Int), (0 : Int), (0 : Int), (0 : Int), (0 : Int)]) / (valI (dg 8 (BitVec.toNat b)))) 13) : Nat) : Int), (((dgt ((valI [(((dgt (BitVec.toNat a) 0) : Nat) : Int), (((dgt (BitVec.toNat a) 1) : Nat) : Int), (((dgt (BitVec.toNat a) 2) : Nat) : Int), (((dgt (BitVec.toNat a) 3) : Nat) : Int), (((dgt (BitVec.toNat a) 4) : Nat) : Int), (((dgt (BitVec.toNat a) 5) : Nat) : Int), (((dgt (BitVec.toNat a) 6) : Nat) : Int), (((dgt (BitVec.toNat a) 7) : Nat) : Int), (0 : Int), (0 : Int), (0 : Int), (0 : Int), (0 : Int), (0 : Int), (0 : Int), (0 : Int)]) / (valI (dg 8 (BitVec.toNat b)))) 14) : Nat) : Int), (((dgt ((valI [(((dgt (BitVec.toNat a) 0) : Nat) : Int), (((dgt (BitVec.toNat a) 1) : Nat) : Int), (((dgt (BitVec.toNat a) 2) : Nat) : Int), (((dgt (BitVec.toNat a) 3) : Nat) : Int), (((dgt (BitVec.toNat a) 4) : Nat) : Int), (((dgt (BitVec.toNat a) 5) : Nat) : Int), (((dgt (BitVec.toNat a) 6) : Nat) : Int), (((dgt (BitVec.toNat a) 7) : Nat) : Int), (0 : Int), (0 : Int), (0 : Int), (0 : Int), (0 : Int), (0 : Int), (0 : Int), (0 : Int)]) / (valI (dg 8 (BitVec.toNat b)))) 15) : Nat) : Int)] == (dg 8 (valI [(((dgt ((valI [(((dgt (BitVec.toNat a) 0) : Nat) : Int), (((dgt (BitVec.toNat a) 1) : Nat) : Int), (((dgt (BitVec.toNat a) 2) : Nat) : Int), (((dgt (BitVec.toNat a) 3) : Nat) : Int), (((dgt (BitVec.toNat a) 4) : Nat) : Int), (((dgt (BitVec.toNat a) 5) : Nat) : Int), (((dgt (BitVec.toNat a) 6) : Nat) : Int), (((dgt (BitVec.toNat a) 7) : Nat) : Int), (0 : Int), (0 : Int), (0 : Int), (0 : Int), (0 : Int), (0 : Int), (0 : Int), (0 : Int)]) / (valI (dg 8 (BitVec.toNat b)))) 8) : Nat) : Int), (((dgt ((valI [(((dgt (BitVec.toNat a) 0) : Nat) : Int), (((dgt (BitVec.toNat a) 1) : Nat) : Int), (((dgt (BitVec.toNat a) 2) : Nat) : Int), (((dgt (BitVec.toNat a) 3) : Nat) : Int), (((dgt (BitVec.toNat a) 4) : Nat) : Int), (((dgt (BitVec.toNat a) 5) : Nat) : Int), (((dgt (BitVec.toNat a) 6) : Nat) : Int), (((dgt (BitVec.toNat a) 7) : Nat) : Int), (0 : Int), (0 : Int), (0 : Int), (0 : Int), (0 : Int), (0 : Int), (0 : Int), (0 : Int)]) / (valI (dg 8 (BitVec.toNat b)))) 9) : Nat) : Int), (((dgt ((valI [(((dgt (BitVec.toNat a) 0) : Nat) : Int), (((dgt (BitVec.toNat a) 1) : Nat) : Int), (((dgt (BitVec.toNat a) 2) : Nat) : Int), (((dgt (BitVec.toNat a) 3) : Nat) : Int), (((dgt (BitVec.toNat a) 4) : Nat) : Int), (((dgt (BitVec.toNat a) 5) : Nat) : Int), (((dgt (BitVec.toNat a) 6) : Nat) : Int), (((dgt (BitVec.toNat a) 7) : Nat) : Int), (0 : Int), (0 : Int), (0 : Int), (0 : Int), (0 : Int), (0 : Int), (0 : Int), (0 : Int)]) / (valI (dg 8 (BitVec.toNat b)))) 10) : Nat) : Int), (((dgt ((valI [(((dgt (BitVec.toNat a) 0) : Nat) : Int), (((dgt (BitVec.toNat a) 1) : Nat) : Int), (((dgt (BitVec.toNat a) 2) : Nat) : Int), (((dgt (BitVec.toNat a) 3) : Nat) : Int), (((dgt (BitVec.toNat a) 4) : Nat) : Int), (((dgt (BitVec.toNat a) 5) : Nat) : Int), (((dgt (BitVec.toNat a) 6) : Nat) : Int), (((dgt (BitVec.toNat a) 7) : Nat) : Int), (0 : Int), (0 : Int), (0 : Int), (0 : Int), (0 : Int), (0 : Int), (0 : Int), (0 : Int)]) / (valI (dg 8 (BitVec.toNat b)))) 11) : Nat) : Int), (((dgt ((valI [(((dgt (BitVec.toNat a) 0) : Nat) : Int), (((dgt (BitVec.toNat a) 1) : Nat) : Int), (((dgt (BitVec.toNat a) 2) : Nat) : Int), (((dgt (BitVec.toNat a) 3) : Nat) : Int), (((dgt (BitVec.toNat a) 4) : Nat) : Int), (((dgt (BitVec.toNat a) 5) : Nat) : Int), (((dgt (BitVec.toNat a) 6) : Nat) : Int), (((dgt (BitVec.toNat a) 7) : Nat) : Int), (0 : Int), (0 : Int), (0 : Int), (0 : Int), (0 : Int), (0 : Int), (0 : Int), (0 : Int)]) / (valI (dg 8 (BitVec.toNat b)))) 12) : Nat) : Int), (((dgt ((valI [(((dgt (BitVec.toNat a) 0) : Nat) : Int), (((dgt (BitVec.toNat a) 1) : Nat) : Int), (((dgt (BitVec.toNat a) 2) : Nat) : Int), (((dgt (BitVec.toNat a) 3) : Nat) : Int), (((dgt (BitVec.toNat a) 4) : Nat) : Int), (((dgt (BitVec.toNat a) 5) : Nat) : Int), (((dgt (BitVec.toNat a) 6) : Nat) : Int), (((dgt (BitVec.toNat a) 7) : Nat) : Int), (0 : Int), (0 : Int), (0 : Int), (0 : Int), (0 : Int), (0 : Int), (0 : Int), (0 : Int)]) / (valI (dg 8 (BitVec.toNat b)))) 13) : Nat) : Int), (((dgt ((valI [(((dgt (BitVec.toNat a) 0) : Nat) : Int), (((dgt (BitVec.toNat a) 1) : Nat) : Int), (((dgt (BitVec.toNat a) 2) : Nat) : Int), (((dgt (BitVec.toNat a) 3) : Nat) : Int), (((dgt (BitVec.toNat a) 4) : Nat) : Int), (((dgt (BitVec.toNat a) 5) : Nat) : Int), (((dgt (BitVec.toNat a) 6) : Nat) : Int), (((dgt (BitVec.toNat a) 7) : Nat) : Int), (0 : Int), (0 : Int), (0 : Int), (0 : Int), (0 : Int), (0 : Int), (0 : Int), (0 : Int)]) / (valI (dg 8 (BitVec.toNat b)))) 14) : Nat) : Int), (((dgt ((valI [(((dgt (BitVec.toNat a) 0) : Nat) : Int), (((dgt (BitVec.toNat a) 1) : Nat) : Int), (((dgt (BitVec.toNat a) 2) : Nat) : Int), (((dgt (BitVec.toNat a) 3) : Nat) : Int), (((dgt (BitVec.toNat a) 4) : Nat) : Int), (((dgt (BitVec.toNat a) 5) : Nat) : Int), (((dgt (BitVec.toNat a) 6) : Nat) : Int), (((dgt (BitVec.toNat a) 7) : Nat) : Int), (0 : Int), (0 : Int), (0 : Int), (0 : Int), (0 : Int), (0 : Int), (0 : Int), (0 : Int)]) / (valI (dg 8 (BitVec.toNat b)))) 15) : Nat) : Int)])))
    (.need ([(((dgt ((valI [(((dgt (BitVec.toNat a) 0) : Nat) : Int), (((dgt (BitVec.toNat a) 1) : Nat) : Int), (((dgt (BitVec.toNat a) 2) : Nat) : Int), (((dgt (BitVec.toNat a) 3) : Nat) : Int), (((dgt (BitVec.toNat a) 4) : Nat) : Int), (((dgt (BitVec.toNat a) 5) : Nat) : Int), (((dgt (BitVec.toNat a) 6) : Nat) : Int), (((dgt (BitVec.toNat a) 7) : Nat) : Int), (0 : Int), (0 : Int), (0 : Int), (0 : Int), (0 : Int), (0 : Int), (0 : Int), (0 : Int)]) / (valI (dg 8 (BitVec.toNat b)))) 0) : Nat) : Int), (((dgt ((valI [(((dgt (BitVec.toNat a) 0) : Nat) : Int), (((dgt (BitVec.toNat a) 1) : Nat) : Int), (((dgt (BitVec.toNat a) 2) : Nat) : Int), (((dgt (BitVec.toNat a) 3) : Nat) : Int), (((dgt (BitVec.toNat a) 4) : Nat) : Int), (((dgt (BitVec.toNat a) 5) : Nat) : Int), (((dgt (BitVec.toNat a) 6) : Nat) : Int), (((dgt (BitVec.toNat a) 7) : Nat) : Int), (0 : Int), (0 : Int), (0 : Int), (0 : Int), (0 : Int), (0 : Int), (0 : Int), (0 : Int)]) / (valI (dg 8 (BitVec.toNat b)))) 1) : Nat) : Int), (((dgt ((valI [(((dgt (BitVec.toNat a) 0) : Nat) : Int), (((dgt (BitVec.toNat a) 1) : Nat) : Int), (((dgt (BitVec.toNat a) 2) : Nat) : Int), (((dgt (BitVec.toNat a) 3) : Nat) : Int), (((dgt (BitVec.toNat a) 4) : Nat) : Int), (((dgt (BitVec.toNat a) 5) : Nat) : Int), (((dgt (BitVec.toNat a) 6) : Nat) : Int), (((dgt (BitVec.toNat a) 7) : Nat) : Int), (0 : Int), (0 : Int), (0 : Int), (0 : Int), (0 : Int), (0 : Int), (0 : Int), (0 : Int)]) / (valI (dg 8 (BitVec.toNat b)))) 2) : Nat) : Int), (((dgt ((valI [(((dgt (BitVec.toNat a) 0) : Nat) : Int), (((dgt (BitVec.toNat a) 1) : Nat) : Int), (((dgt (BitVec.toNat a) 2) : Nat) : Int), (((dgt (BitVec.toNat a) 3) : Nat) : Int), (((dgt (BitVec.toNat a) 4) : Nat) : Int), (((dgt (BitVec.toNat a) 5) : Nat) : Int), (((dgt (BitVec.toNat a) 6) : Nat) : Int), (((dgt (BitVec.toNat a) 7) : Nat) : Int), (0 : Int), (0 : Int), (0 : Int), (0 : Int), (0 : Int), (0 : Int), (0 : Int), (0 : Int)]) / (valI (dg 8 (BitVec.toNat b)))) 3) : Nat) : Int), (((dgt ((valI [(((dgt (BitVec.toNat a) 0) : Nat) : Int), (((dgt (BitVec.toNat a) 1) : Nat) : Int), (((dgt (BitVec.toNat a) 2) : Nat) : Int), (((dgt (BitVec.toNat a) 3) : Nat) : Int), (((dgt (BitVec.toNat a) 4) : Nat) : Int), (((dgt (BitVec.toNat a) 5) : Nat) : Int), (((dgt (BitVec.toNat a) 6) : Nat) : Int), (((dgt (BitVec.toNat a) 7) : Nat) : Int), (0 : Int), (0 : Int), (0 : Int), (0 : Int), (0 : Int), (0 : Int), (0 : Int), (0 : Int)]) / (valI (dg 8 (BitVec.toNat b)))) 4) : Nat) : Int), (((dgt ((valI [(((dgt (BitVec.toNat a) 0) : Nat) : Int), (((dgt (BitVec.toNat a) 1) : Nat) : Int), (((dgt (BitVec.toNat a) 2) : Nat) : Int), (((dgt (BitVec.toNat a) 3) : Nat) : Int), (((dgt (BitVec.toNat a) 4) : Nat) : Int), (((dgt (BitVec.toNat a) 5) : Nat) : Int), (((dgt (BitVec.toNat a) 6) : Nat) : Int), (((dgt (BitVec.toNat a) 7) : Nat) : Int), (0 : Int), (0 : Int), (0 : Int), (0 : Int), (0 : Int), (0 : Int), (0 : Int), (0 : Int)]) / (valI (dg 8 (BitVec.toNat b)))) 5) : Nat) : Int), (((dgt ((valI [(((dgt (BitVec.toNat a) 0) : Nat) : Int), (((dgt (BitVec.toNat a) 1) : Nat) : Int), (((dgt (BitVec.toNat a) 2) : Nat) : Int), (((dgt (BitVec.toNat a) 3) : Nat) : Int), (((dgt (BitVec.toNat a) 4) : Nat) : Int), (((dgt (BitVec.toNat a) 5) : Nat) : Int), (((dgt (BitVec.toNat a) 6) : Nat) : Int), (((dgt (BitVec.toNat a) 7) : Nat) : Int), (0 : Int), (0 : Int), (0 : Int), (0 : Int), (0 : Int), (0 : Int), (0 : Int), (0 : Int)]) / (valI (dg 8 (BitVec.toNat b)))) 6) : Nat) : Int), (((dgt ((valI [(((dgt (BitVec.toNat a) 0) : Nat) : Int), (((dgt (BitVec.toNat a) 1) : Nat) : Int), (((dgt (BitVec.toNat a) 2) : Nat) : Int), (((dgt (BitVec.toNat a) 3) : Nat) : Int), (((dgt (BitVec.toNat a) 4) : Nat) : Int), (((dgt (BitVec.toNat a) 5) : Nat) : Int), (((dgt (BitVec.toNat a) 6) : Nat) : Int), (((dgt (BitVec.toNat a) 7) : Nat) : Int), (0 : Int), (0 : Int), (0 : Int), (0 : Int), (0 : Int), (0 : Int), (0 : Int), (0 : Int)]) / (valI (dg 8 (BitVec.toNat b)))) 7) : Nat) : Int)] == (dg 8 (valI [(((dgt ((valI [(((dgt (BitVec.toNat a) 0) : Nat) : Int), (((dgt (BitVec.toNat a) 1) : Nat) : Int), (((dgt (BitVec.toNat a) 2) : Nat) : Int), (((dgt (BitVec.toNat a) 3) : Nat) : Int), (((dgt (BitVec.toNat a) 4) : Nat) : Int), (((dgt (BitVec.toNat a) 5) : Nat) : Int), (((dgt (BitVec.toNat a) 6) : Nat) : Int), (((dgt (BitVec.toNat a) 7) : Nat) : Int), (0 : Int), (0 : Int), (0 : Int), (0 : Int), (0 : Int), (0 : Int), (0 : Int), (0 : Int)]) / (valI (dg 8 (BitVec.toNat b)))) 0) : Nat) : Int), (((dgt ((valI [(((dgt (BitVec.toNat a) 0) : Nat) : Int), (((dgt (BitVec.toNat a) 1) : Nat) : Int), (((dgt (BitVec.toNat a) 2) : Nat) : Int), (((dgt (BitVec.toNat a) 3) : Nat) : Int), (((dgt (BitVec.toNat a) 4) : Nat) : Int), (((dgt (BitVec.toNat a) 5) : Nat) : Int), (((dgt (BitVec.toNat a) 6) : Nat) : Int), (((dgt (BitVec.toNat a) 7) : Nat) : Int), (0 : Int), (0 : Int), (0 : Int), (0 : Int), (0 : Int), (0 : Int), (0 : Int), (0 : Int)]) / (valI (dg 8 (BitVec.toNat b)))) 1) : Nat) : Int), (((dgt ((valI [(((dgt (BitVec.toNat a) 0) : Nat) : Int), (((dgt (BitVec.toNat a) 1) : Nat) : Int), (((dgt (BitVec.toNat a) 2) : Nat) : Int), (((dgt (BitVec.toNat a) 3) : Nat) : Int), (((dgt (BitVec.toNat a) 4) : Nat) : Int), (((dgt (BitVec.toNat a) 5) : Nat) : Int), (((dgt (BitVec.toNat a) 6) : Nat) : Int), (((dgt (BitVec.toNat a) 7) : Nat) : Int), (0 : Int), (0 : Int), (0 : Int), (0 : Int), (0 : Int), (0 : Int), (0 : Int), (0 : Int)]) / (valI (dg 8 (BitVec.toNat b)))) 2) : Nat) : Int), (((dgt ((valI [(((dgt (BitVec.toNat a) 0) : Nat) : Int), (((dgt (BitVec.toNat a) 1) : Nat) : Int), (((dgt (BitVec.toNat a) 2) : Nat) : Int), (((dgt (BitVec.toNat a) 3) : Nat) : Int), (((dgt (BitVec.toNat a) 4) : Nat) : Int), (((dgt (BitVec.toNat a) 5) : Nat) : Int), (((dgt (BitVec.toNat a) 6) : Nat) : Int), (((dgt (BitVec.toNat a) 7) : Nat) : Int), (0 : Int), (0 : Int), (0 : Int), (0 : Int), (0 : Int), (0 : Int), (0 : Int), (0 : Int)]) / (valI (dg 8 (BitVec.toNat b)))) 3) : Nat) : Int), (((dgt ((valI [(((dgt (BitVec.toNat a) 0) : Nat) : Int), (((dgt (BitVec.toNat a) 1) : Nat) : Int), (((dgt (BitVec.toNat a) 2) : Nat) : Int), (((dgt (BitVec.toNat a) 3) : Nat) : Int), (((dgt (BitVec.toNat a) 4) : Nat) : Int), (((dgt (BitVec.toNat a) 5) : Nat) : Int), (((dgt (BitVec.toNat a) 6) : Nat) : Int), (((dgt (BitVec.toNat a) 7) : Nat) : Int), (0 : Int), (0 : Int), (0 : Int), (0 : Int), (0 : Int), (0 : Int), (0 : Int), (0 : Int)]) / (valI (dg 8 (BitVec.toNat b)))) 4) : Nat) : Int), (((dgt ((valI [(((dgt (BitVec.toNat a) 0) : Nat) : Int), (((dgt (BitVec.toNat a) 1) : Nat) : Int), (((dgt (BitVec.toNat a) 2) : Nat) : Int), (((dgt (BitVec.toNat a) 3) : Nat) : Int), (((dgt (BitVec.toNat a) 4) : Nat) : Int), (((dgt (BitVec.toNat a) 5) : Nat) : Int), (((dgt (BitVec.toNat a) 6) : Nat) : Int), (((dgt (BitVec.toNat a) 7) : Nat) : Int), (0 : Int), (0 : Int), (0 : Int), (0 : Int), (0 : Int), (0 : Int), (0 : Int), (0 : Int)]) / (valI (dg 8 (BitVec.toNat b)))) 5) : Nat) : Int), (((dgt ((valI [(((dgt (BitVec.toNat a) 0) : Nat) : Int), (((dgt (BitVec.toNat a) 1) : Nat) : Int), (((dgt (BitVec.toNat a) 2) : Nat) : Int), (((dgt (BitVec.toNat a) 3) : Nat) : Int), (((dgt (BitVec.toNat a) 4) : Nat) : Int), (((dgt (BitVec.toNat a) 5) : Nat) : Int), (((dgt (BitVec.toNat a) 6) : Nat) : Int), (((dgt (BitVec.toNat a) 7) : Nat) : Int), (0 : Int), (0 : Int), (0 : Int), (0 : Int), (0 : Int), (0 : Int), (0 : Int), (0 : Int)]) / (valI (dg 8 (BitVec.toNat b)))) 6) : Nat) : Int), (((dgt ((valI [(((dgt (BitVec.toNat a) 0) : Nat) : Int), (((dgt (BitVec.toNat a) 1) : Nat) : Int), (((dgt (BitVec.toNat a) 2) : Nat) : Int), (((dgt (BitVec.toNat a) 3) : Nat) : Int), (((dgt (BitVec.toNat a) 4) : Nat) : Int), (((dgt (BitVec.toNat a) 5) : Nat) : Int), (((dgt (BitVec.toNat a) 6) : Nat) : Int), (((dgt (BitVec.toNat a) 7) : Nat) : Int), (0 : Int), (0 : Int), (0 : Int), (0 : Int), (0 : Int), (0 : Int), (0 : Int), (0 : Int)]) / (valI (dg 8 (BitVec.toNat b)))) 7) : Nat) : Int)])))
    (.need ((dg 8 (remD (valI [(((dgt (BitVec.toNat a) 0) : Nat) : Int), (((dgt (BitVec.toNat a) 1) : Nat) : Int), (((dgt (BitVec.toNat a) 2) : Nat) : Int), (((dgt (BitVec.toNat a) 3) : Nat) : Int), (((dgt (BitVec.toNat a) 4) : Nat) : Int), (((dgt (BitVec.toNat a) 5) : Nat) : Int), (((dgt (BitVec.toNat a) 6) : Nat) : Int), (((dgt (BitVec.toNat a) 7) : Nat) : Int), (0 : Int), (0 : Int), (0 : Int), (0 : Int), (0 : Int), (0 : Int), (0 : Int), (0 : Int)]) (valI (dg 8 (BitVec.toNat b))))) == (dg 8 (valI (dg 8 (remD (valI [(((dgt (BitVec.toNat a) 0) : Nat) : Int), (((dgt (BitVec.toNat a) 1) : Nat) : Int), (((dgt (BitVec.toNat a) 2) : Nat) : Int), (((dgt (BitVec.toNat a) 3) : Nat) : Int), (((dgt (BitVec.toNat a) 4) : Nat) : Int), (((dgt (BitVec.toNat a) 5) : Nat) : Int), (((dgt (BitVec.toNat a) 6) : Nat) : Int), (((dgt (BitVec.toNat a) 7) : Nat) : Int), (0 : Int), (0 : Int), (0 : Int), (0 : Int), (0 : Int), (0 : Int), (0 : Int), (0 : Int)]) (valI (dg 8 (BitVec.toNat b))))))))
    (.leaf (.tup [(.u (BitVec.ofNat 256 (valI [(((dgt ((valI [(((dgt (BitVec.toNat a) 0) : Nat) : Int), (((dgt (BitVec.toNat a) 1) : Nat) : Int), (((dgt (BitVec.toNat a) 2) : Nat) : Int), (((dgt (BitVec.toNat a) 3) : Nat) : Int), (((dgt (BitVec.toNat a) 4) : Nat) : Int), (((dgt (BitVec.toNat a) 5) : Nat) : Int), (((dgt (BitVec.toNat a) 6) : Nat) : Int), (((dgt (BitVec.toNat a) 7) : Nat) : Int), (0 : Int), (0 : Int), (0 : Int), (0 : Int), (0 : Int), (0 : Int), (0 : Int), (0 : Int)]) / (valI (dg 8 (BitVec.toNat b)))) 0) : Nat) : Int), (((dgt ((valI [(((dgt (BitVec.toNat a) 0) : Nat) : Int), (((dgt (BitVec.toNat a) 1) : Nat) : Int), (((dgt (BitVec.toNat a) 2) : Nat) : Int), (((dgt (BitVec.toNat a) 3) : Nat) : Int), (((dgt (BitVec.toNat a) 4) : Nat) : Int), (((dgt (BitVec.toNat a) 5) : Nat) : Int), (((dgt (BitVec.toNat a) 6) : Nat) : Int), (((dgt (BitVec.toNat a) 7) : Nat) : Int), (0 : Int), (0 : Int), (0 : Int), (0 : Int), (0 : Int), (0 : Int), (0 : Int), (0 : Int)]) / (valI (dg 8 (BitVec.toNat b)))) 1) : Nat) : Int), (((dgt ((valI [(((dgt (BitVec.toNat a) 0) : Nat) : Int), (((dgt (BitVec.toNat a) 1) : Nat) : Int), (((dgt (BitVec.toNat a) 2) : Nat) : Int), (((dgt (BitVec.toNat a) 3) : Nat) : Int), (((dgt (BitVec.toNat a) 4) : Nat) : Int), (((dgt (BitVec.toNat a) 5) : Nat) : Int), (((dgt (BitVec.toNat a) 6) : Nat) : Int), (((dgt (BitVec.toNat a) 7) : Nat) : Int), (0 : Int), (0 : Int), (0 : Int), (0 : Int), (0 : Int), (0 : Int), (0 : Int), (0 : Int)]) / (valI (dg 8 (BitVec.toNat b)))) 2) : Nat) : Int), (((dgt ((valI [(((dgt (BitVec.toNat a) 0) : Nat) : Int), (((dgt (BitVec.toNat a) 1) : Nat) : Int), (((dgt (BitVec.toNat a) 2) : Nat) : Int), (((dgt (BitVec.toNat a) 3) : Nat) : Int), (((dgt (BitVec.toNat a) 4) : Nat) : Int), (((dgt (BitVec.toNat a) 5) : Nat) : Int), (((dgt (BitVec.toNat a) 6) : Nat) : Int), (((dgt (BitVec.toNat a) 7) : Nat) : Int), (0 : Int), (0 : Int), (0 : Int), (0 : Int), (0 : Int), (0 : Int), (0 : Int), (0 : Int)]) / (valI (dg 8 (BitVec.toNat b)))) 3) : Nat) : Int), (((dgt ((valI [(((dgt (BitVec.toNat a) 0) : Nat) : Int), (((dgt (BitVec.toNat a) 1) : Nat) : Int), (((dgt (BitVec.toNat a) 2) : Nat) : Int), (((dgt (BitVec.toNat a) 3) : Nat) : Int), (((dgt (BitVec.toNat a) 4) : Nat) : Int), (((dgt (BitVec.toNat a) 5) : Nat) : Int), (((dgt (BitVec.toNat a) 6) : Nat) : Int), (((dgt (BitVec.toNat a) 7) : Nat) : Int), (0 : Int), (0 : Int), (0 : Int), (0 : Int), (0 : Int), (0 : Int), (0 : Int), (0 : Int)]) / (valI (dg 8 (BitVec.toNat b)))) 4) : Nat) : Int), (((dgt ((valI [(((dgt (BitVec.toNat a) 0) : Nat) : Int), (((dgt (BitVec.toNat a) 1) : Nat) : Int), (((dgt (BitVec.toNat a) 2) : Nat) : Int), (((dgt (BitVec.toNat a) 3) : Nat) : Int), (((dgt (BitVec.toNat a) 4) : Nat) : Int), (((dgt (BitVec.toNat a) 5) : Nat) : Int), (((dgt (BitVec.toNat a) 6) : Nat) : Int), (((dgt (BitVec.toNat a) 7) : Nat) : Int), (0 : Int), (0 : Int), (0 : Int), (0 : Int), (0 : Int), (0 : Int), (0 : Int), (0 : Int)]) / (valI (dg 8 (BitVec.toNat b)))) 5) : Nat) : Int), (((dgt ((valI [(((dgt (BitVec.toNat a) 0) : Nat) : Int), (((dgt (BitVec.toNat a) 1) : Nat) : Int), (((dgt (BitVec.toNat a) 2) : Nat) : Int), (((dgt (BitVec.toNat a) 3) : Nat) : Int), (((dgt (BitVec.toNat a) 4) : Nat) : Int), (((dgt (BitVec.toNat a) 5) : Nat) : Int), (((dgt (BitVec.toNat a) 6) : Nat) : Int), (((dgt (BitVec.toNat a) 7) : Nat) : Int), (0 : Int), (0 : Int), (0 : Int), (0 : Int), (0 : Int), (0 : Int), (0 : Int), (0 : Int)]) / (valI (dg 8 (BitVec.toNat b)))) 6) : Nat) : Int), (((dgt ((valI [(((dgt (BitVec.toNat a) 0) : Nat) : Int), (((dgt (BitVec.toNat a) 1) : Nat) : Int), (((dgt (BitVec.toNat a) 2) : Nat) : Int), (((dgt (BitVec.toNat a) 3) : Nat) : Int), (((dgt (BitVec.toNat a) 4) : Nat) : Int), (((dgt (BitVec.toNat a) 5) : Nat) : Int), (((dgt (BitVec.toNat a) 6) : Nat) : Int), (((dgt (BitVec.toNat a) 7) : Nat) : Int), (0 : Int), (0 : Int), (0 : Int), (0 : Int), (0 : Int), (0 : Int), (0 : Int), (0 : Int)]) / (valI (dg 8 (BitVec.toNat b)))) 7) : Nat) : Int)]))), (.u (BitVec.ofNat 256 (valI (dg 8 (remD (valI [(((dgt (BitVec.toNat a) 0) : Nat) : Int), (((dgt (BitVec.toNat a) 1) : Nat) : Int), (((dgt (BitVec.toNat a) 2) : Nat) : Int), (((dgt (BitVec.toNat a) 3) : Nat) : Int), (((dgt (BitVec.toNat a) 4) : Nat) : Int), (((dgt (BitVec.toNat a) 5) : Nat) : Int), (((dgt (BitVec.toNat a) 6) : Nat) : Int), (((dgt (BitVec.toNat a) 7) : Nat) : Int), (0 : Int), (0 : Int), (0 : Int), (0 : Int), (0 : Int), (0 : Int), (0 : Int), (0 : Int)]) (valI (dg 8 (BitVec.toNat b))))))))]))))))))) := by kernel_rfl
theorem rrest_tree (h l m : BitVec 256) : (callT (rdivX) (execT (rdivX) 100) 57 [.u h, .u l, .u m] [] [] 0 []).map CR.v =
    (.need ([(((dgt (BitVec.toNat l) 0) : Nat) : Int), (((dgt (BitVec.toNat l) 1) : Nat) : Int), (((dgt (BitVec.toNat l) 2) : Nat) : Int), (((dgt (BitVec.toNat l) 3) : Nat) : Int), (((dgt (BitVec.toNat l) 4) : Nat) : Int), (((dgt (BitVec.toNat l) 5) : Nat) : Int), (((dgt (BitVec.toNat l) 6) : Nat) : Int), (((dgt (BitVec.toNat l) 7) : Nat) : Int), (((dgt (BitVec.toNat h) 0) : Nat) : Int), (((dgt (BitVec.toNat h) 1) : Nat) : Int), (((dgt (BitVec.toNat h) 2) : Nat) : Int), (((dgt (BitVec.toNat h) 3) : Nat) : Int), (((dgt (BitVec.toNat h) 4) : Nat) : Int), (((dgt (BitVec.toNat h) 5) : Nat) : Int), (((dgt (BitVec.toNat h) 6) : Nat) : Int), (((dgt (BitVec.toNat h) 7) : Nat) : Int)] == (dg 16 (valI [(((dgt (BitVec.toNat l) 0) : Nat) : Int), (((dgt (BitVec.toNat l) 1) : Nat) : Int), (((dgt (BitVec.toNat l) 2) : Nat) : Int), (((dgt (BitVec.toNat l) 3) : Nat) : Int), (((dgt (BitVec.toNat l) 4) : Nat) : Int), (((dgt (BitVec.toNat l) 5) : Nat) : Int), (((dgt (BitVec.toNat l) 6) : Nat) : Int), (((dgt (BitVec.toNat l) 7) : Nat) : Int), (((dgt (BitVec.toNat h) 0) : Nat) : Int), (((dgt (BitVec.toNat h) 1) : Nat) : Int), (((dgt (BitVec.toNat h) 2) : Nat) : Int), (((dgt (BitVec.toNat h) 3) : Nat) : Int), (((dgt (BitVec.toNat h) 4) : Nat) : Int), (((dgt (BitVec.toNat h) 5) : Nat) : Int), (((dgt (BitVec.toNat h) 6) : Nat) : Int), (((dgt (BitVec.toNat h) 7) : Nat) : Int)])))
    (.need ((dg 8 (BitVec.toNat m)) == (dg 8 (valI (dg 8 (BitVec.toNat m)))))
    (.need (decide ((valI [(((dgt (BitVec.toNat l) 0) : Nat) : Int), (((dgt (BitVec.toNat l) 1) : Nat) : Int), (((dgt (BitVec.toNat l) 2) : Nat) : Int), (((dgt (BitVec.toNat l) 3) : Nat) : Int), (((dgt (BitVec.toNat l) 4) : Nat) : Int), (((dgt (BitVec.toNat l) 5) : Nat) : Int), (((dgt (BitVec.toNat l) 6) : Nat) : Int), (((dgt (BitVec.toNat l) 7) : Nat) : Int), (((dgt (BitVec.toNat h) 0) : Nat) : Int), (((dgt (BitVec.toNat h) 1) : Nat) : Int), (((dgt (BitVec.toNat h) 2) : Nat) : Int), (((dgt (BitVec.toNat h) 3) : Nat) : Int), (((dgt (BitVec.toNat h) 4) : Nat) : Int), (((dgt (BitVec.toNat h) 5) : Nat) : Int), (((dgt (BitVec.toNat h) 6) : Nat) : Int), (((dgt (BitVec.toNat h) 7) : Nat) : Int)]) < 13407807929942597099574024998205846127479365820592393377723561443721764030073546976801874298166903427690031858186486050853753882811946569946433649006084096))
    (.need (decide ((valI (dg 8 (BitVec.toNat m))) < 115792089237316195423570985008687907853269984665640564039457584007913129639936))
    (.need ((dg 8 (remD (valI [(((dgt (BitVec.toNat l) 0) : Nat) : Int), (((dgt (BitVec.toNat l) 1) : Nat) : Int), (((dgt (BitVec.toNat l) 2) : Nat) : Int), (((dgt (BitVec.toNat l) 3) : Nat) : Int), (((dgt (BitVec.toNat l) 4) : Nat) : Int), (((dgt (BitVec.toNat l) 5) : Nat) : Int), (((dgt (BitVec.toNat l) 6) : Nat) : Int), (((dgt (BitVec.toNat l) 7) : Nat) : Int), (((dgt (BitVec.toNat h) 0) : Nat) : Int), (((dgt (BitVec.toNat h) 1) : Nat) : Int), (((dgt (BitVec.toNat h) 2) : Nat) : Int), (((dgt (BitVec.toNat h) 3) : Nat) : Int), (((dgt (BitVec.toNat h) 4) : Nat) : Int), (((dgt (BitVec.toNat h) 5) : Nat) : Int), (((dgt (BitVec.toNat h) 6) : Nat) : Int), (((dgt (BitVec.toNat h) 7) : Nat) : Int)]) (valI (dg 8 (BitVec.toNat m))))) == (dg 8 (valI (dg 8 (remD (valI [(((dgt (BitVec.toNat l) 0) : Nat) : Int), (((dgt (BitVec.toNat l) 1) : Nat) : Int), (((dgt (BitVec.toNat l) 2) : Nat) : Int), (((dgt (BitVec.toNat l) 3) : Nat) : Int), (((dgt (BitVec.toNat l) 4) : Nat) : Int), (((dgt (BitVec.toNat l) 5) : Nat) : Int), (((dgt (BitVec.toNat l) 6) : Nat) : Int), (((dgt (BitVec.toNat l) 7) : Nat) : Int), (((dgt (BitVec.toNat h) 0) : Nat) : Int), (((dgt (BitVec.toNat h) 1) : Nat) : Int), (((dgt (BitVec.toNat h) 2) : Nat) : Int), (((dgt (BitVec.toNat h) 3) : Nat) : Int), (((dgt (BitVec.toNat h) 4) : Nat) : Int), (((dgt (BitVec.toNat h) 5) : Nat) : Int), (((dgt (BitVec.toNat h) 6) : Nat) : Int), (((dgt (BitVec.toNat h) 7) : Nat) : Int)]) (valI (dg 8 (BitVec.toNat m))))))))
    (.leaf (.u (BitVec.ofNat 256 (valI (dg 8 (remD (valI [(((dgt (BitVec.toNat l) 0) : Nat) : Int), (((dgt (BitVec.toNat l) 1) : Nat) : Int), (((dgt (BitVec.toNat l) 2) : Nat) : Int), (((dgt (BitVec.toNat l) 3) : Nat) : Int), (((dgt (BitVec.toNat l) 4) : Nat) : Int), (((dgt (BitVec.toNat l) 5) : Nat) : Int), (((dgt (BitVec.toNat l) 6) : Nat) : Int), (((dgt (BitVec.toNat l) 7) : Nat) : Int), (((dgt (BitVec.toNat h) 0) : Nat) : Int), (((dgt (BitVec.toNat h) 1) : Nat) : Int), (((dgt (BitVec.toNat h) 2) : Nat) : Int), (((dgt (BitVec.toNat h) 3) : Nat) : Int), (((dgt (BitVec.toNat h) 4) : Nat) : Int), (((dgt (BitVec.toNat h) 5) : Nat) : Int), (((dgt (BitVec.toNat h) 6) : Nat) : Int), (((dgt (BitVec.toNat h) 7) : Nat) : Int)]) (valI (dg 8 (BitVec.toNat m)))))))))))))) := by kernel_rfl
theorem lit16 (a : BitVec 256) : [(((dgt (BitVec.toNat a) 0) : Nat) : Int), (((dgt (BitVec.toNat a) 1) : Nat) : Int), (((dgt (BitVec.toNat a) 2) : Nat) : Int), (((dgt (BitVec.toNat a) 3) : Nat) : Int), (((dgt (BitVec.toNat a) 4) : Nat) : Int), (((dgt (BitVec.toNat a) 5) : Nat) : Int), (((dgt (BitVec.toNat a) 6) : Nat) : Int), (((dgt (BitVec.toNat a) 7) : Nat) : Int), (0 : Int), (0 : Int), (0 : Int), (0 : Int), (0 : Int), (0 : Int), (0 : Int), (0 : Int)] = dg 16 a.toNat := by
  rw [show (16 : Nat) = 8 + 8 from rfl, dg_append, pow8, Nat.div_eq_of_lt a.isLt]; rfl
theorem lit16b (h l : BitVec 256) : [(((dgt (BitVec.toNat l) 0) : Nat) : Int), (((dgt (BitVec.toNat l) 1) : Nat) : Int), (((dgt (BitVec.toNat l) 2) : Nat) : Int), (((dgt (BitVec.toNat l) 3) : Nat) : Int), (((dgt (BitVec.toNat l) 4) : Nat) : Int), (((dgt (BitVec.toNat l) 5) : Nat) : Int), (((dgt (BitVec.toNat l) 6) : Nat) : Int), (((dgt (BitVec.toNat l) 7) : Nat) : Int), (((dgt (BitVec.toNat h) 0) : Nat) : Int), (((dgt (BitVec.toNat h) 1) : Nat) : Int), (((dgt (BitVec.toNat h) 2) : Nat) : Int), (((dgt (BitVec.toNat h) 3) : Nat) : Int), (((dgt (BitVec.toNat h) 4) : Nat) : Int), (((dgt (BitVec.toNat h) 5) : Nat) : Int), (((dgt (BitVec.toNat h) 6) : Nat) : Int), (((dgt (BitVec.toNat h) 7) : Nat) : Int)] = dg 16 (l.toNat + 2 ^ 256 * h.toNat) := by
  have h1 : (l.toNat + 2 ^ 256 * h.toNat) / b32 ^ 8 = h.toNat := by rw [pow8, Nat.add_mul_div_left _ _ (by decide), Nat.div_eq_of_lt l.isLt, Nat.zero_add]
  have h2 : (l.toNat + 2 ^ 256 * h.toNat) % b32 ^ 8 = l.toNat := by rw [pow8, Nat.add_mul_mod_self_left, Nat.mod_eq_of_lt l.isLt]
  rw [show (16 : Nat) = 8 + 8 from rfl, dg_append, h1, ← dg_mod 8 (l.toNat + 2 ^ 256 * h.toNat), h2]; rfl
theorem lit8 (q : Nat) : [(((dgt (q) 0) : Nat) : Int), (((dgt (q) 1) : Nat) : Int), (((dgt (q) 2) : Nat) : Int), (((dgt (q) 3) : Nat) : Int), (((dgt (q) 4) : Nat) : Int), (((dgt (q) 5) : Nat) : Int), (((dgt (q) 6) : Nat) : Int), (((dgt (q) 7) : Nat) : Int)] = dg 8 q := rfl
theorem lit8b (q : Nat) : [(((dgt (q) 8) : Nat) : Int), (((dgt (q) 9) : Nat) : Int), (((dgt (q) 10) : Nat) : Int), (((dgt (q) 11) : Nat) : Int), (((dgt (q) 12) : Nat) : Int), (((dgt (q) 13) : Nat) : Int), (((dgt (q) 14) : Nat) : Int), (((dgt (q) 15) : Nat) : Int)] = dg 8 (q / b32 ^ 8) := by
  rw [dg_list8]
  simp only [dgt_div]
theorem lt8 (a : BitVec 256) : a.toNat < b32 ^ 8 := by rw [pow8]; exact a.isLt
theorem remD_lt8 {x : Nat} (m : BitVec 256) : remD x m.toNat < b32 ^ 8 := by
  unfold remD
  split
  · exact b32_pos 8
  · exact Nat.lt_trans (Nat.mod_lt _ (by omega)) (lt8 m)
theorem rdiv_ok (a b : BitVec 256) : Pure Try.prog 55 [.u a, .u b] (.tup [.u (a / b), .u (remU a b)]) := by
  refine Pure.by_tree mixed _ 100 _ _ (rdiv_tree a b) ?_
  have hq : a.toNat / b.toNat < b32 ^ 8 := Nat.lt_of_le_of_lt (Nat.div_le_self _ _) (lt8 a)
  have hq0 : a.toNat / b.toNat / b32 ^ 8 = 0 := Nat.div_eq_of_lt hq
  have k5 : ∀ l : List Int, (l == l) = true := fun l => by simp
  rw [lit16, dg_mod_n (u_lt16 a), dg_mod_n (lt8 b), lit8, lit8b, hq0, dg_mod_n hq, dg_mod_n (remD_lt8 b), dg_mod_n (b32_pos 8)]
  refine ⟨k5 _, k5 _, decide_eq_true (u_lt16 a), decide_eq_true (lt8 b), k5 _, k5 _, k5 _, ?_⟩
  have e : BitVec.ofNat 256 (a.toNat / b.toNat) = a / b := by
    apply BitVec.eq_of_toNat_eq
    rw [BitVec.toNat_ofNat, BitVec.toNat_udiv, Nat.mod_eq_of_lt (by rw [← pow8]; exact hq)]
  rw [e]
  exact SameR.tup2 (SameV.u rfl) (SameV.u rfl)
theorem rrest_ok (h l m : BitVec 256) : Pure Try.prog 57 [.u h, .u l, .u m] (.u (restU h l m)) := by
  refine Pure.by_tree mixed _ 100 _ _ (rrest_tree h l m) ?_
  have hx : l.toNat + 2 ^ 256 * h.toNat < b32 ^ 16 := by
    have e : b32 ^ 16 = 2 ^ 256 * 2 ^ 256 := by rw [← pow8, ← Nat.pow_add]
    rw [e]
    have h1 := l.isLt
    have h2 : 2 ^ 256 * (h.toNat + 1) ≤ 2 ^ 256 * 2 ^ 256 := Nat.mul_le_mul_left _ h.isLt
    rw [Nat.mul_add] at h2
    omega
  have k5 : ∀ l : List Int, (l == l) = true := fun l => by simp
  rw [lit16b, dg_mod_n hx, dg_mod_n (lt8 m), dg_mod_n (remD_lt8 m)]
  exact ⟨k5 _, k5 _, decide_eq_true hx, decide_eq_true (lt8 m), k5 _, (SameV.u rfl).r⟩
noncomputable def c_rdiv : Ctr Try.prog := Ctr.of 55 (fun | [.u a, .u b] => some ([], .tup [.u (a / b), .u (remU a b)]) | _ => none) (by
  intro args ob v h hob
  split at h <;> simp only [Option.some.injEq, Prod.mk.injEq, reduceCtorEq] at h
  rename_i a b
  obtain ⟨rfl, rfl⟩ := h
  exact rdiv_ok a b)
noncomputable def c_rrest : Ctr Try.prog := Ctr.u3 57 (fun h l m => .u (restU h l m)) rrest_ok
end Go.Proofs.Ytakmgioeldbkcaa

/- Contracts: the environment of the laws of chapter 2 with the document's own division. -/
namespace Go.Proofs.Ytakmgioeldbkcaa
open Go Go.RowKit
noncomputable def lawX2d : EnvT Try.prog := { lawX2b with cs := c_rdiv :: c_rrest :: lawX2b.cs, fis := fi_trucelaw02_MulDivs :: lawX2b.fis }
end Go.Proofs.Ytakmgioeldbkcaa

