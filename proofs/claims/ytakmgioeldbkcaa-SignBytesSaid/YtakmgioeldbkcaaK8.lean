/- Texts of this claim, one behind the other. -/
import Derived.Test.YtakmgioeldbkcaaK7
import Derived.Test.YtakmgioeldbkcaaK3

/- Contracts: the product that Pow hands on. -/
namespace Go.Proofs.Ytakmgioeldbkcaa
open Go Go.RowKit
noncomputable def powmX : EnvT Try.prog := { cs := [c_mulMod], fis := [fi_modu_Pow_1] }
theorem powm_tree (T : Nat) (a b m : BitVec 256) : (callT powmX (execT powmX 100) 122 [.u a, .u b, .ptr 0 []] [] (heapK [(T, .u m)]) 1 []).map CR.v = (.leaf (.u (mulm a b m))) := by kernel_rfl
noncomputable def c_powm : Ctr Try.prog := Ctr.ofK 122 (fun args bs => match args, bs with
    | [.u a, .u b, .ptr 0 []], [(_, .u m)] => some ([], .u (mulm a b m))
    | _, _ => none) (by
  intro args bs ob v h hob
  split at h <;> simp only [Option.some.injEq, Prod.mk.injEq, reduceCtorEq] at h
  rename_i a b T m
  obtain ⟨rfl, rfl⟩ := h
  exact PureK.by_tree mixed powmX 100 _ _ _ 1 [] [] (powm_tree T a b m) (SameV.u rfl).r)
noncomputable def powX1 : EnvT Try.prog := { cs := [c_num_Mul, c_powm, c_num_Bits, c_num_Shr], fis := [fi_modu_power] }
end Go.Proofs.Ytakmgioeldbkcaa

/- Contracts: powers, round by round. -/
namespace Go.Proofs.Ytakmgioeldbkcaa
open Go Go.RowKit
/-- The lowest bit. -/
def b0 (x : BitVec 256) : Bool := iand .u64 (limb x 0) (1 : Int) == (1 : Int)
abbrev U3 := BitVec 256 × BitVec 256 × BitVec 256
/-- A round of a power. -/
def rnd (op : BitVec 256 → BitVec 256 → BitVec 256) (s : U3) : U3 := (op s.1 s.1, s.2.1 >>> 1, if b0 s.2.1 = true then op s.2.2 s.1 else s.2.2)
def rnds (op : BitVec 256 → BitVec 256 → BitVec 256) : Nat → U3 → U3
  | 0, s => s
  | j + 1, s => rnd op (rnds op j s)
def rA (op : BitVec 256 → BitVec 256 → BitVec 256) (j : Nat) (a n f : BitVec 256) : BitVec 256 := (rnds op j (a, n, f)).1
def rN (op : BitVec 256 → BitVec 256 → BitVec 256) (j : Nat) (a n f : BitVec 256) : BitVec 256 := (rnds op j (a, n, f)).2.1
def rF (op : BitVec 256 → BitVec 256 → BitVec 256) (j : Nat) (a n f : BitVec 256) : BitVec 256 := (rnds op j (a, n, f)).2.2
noncomputable def pow1_st (a : BitVec 256) (n : BitVec 256) (f : BitVec 256) (v1 : Int) (v2 : BitVec 256) (v3 : BitVec 256) (v4 : BitVec 256) : KS := ⟨⟨pat' [(3, (.fn 61 [])), (4, (.ptr 0 [])), (5, (.ptr 1 [])), (6, (.ptr 2 [])), (8, (.ptr 3 [])), (9, (.int .i64 v1))] 0 31, [(some ⟨24, (.u v2), true⟩), (some ⟨24, (.u v3), true⟩), (some ⟨24, (.u v4), true⟩), (some ⟨24, (.ints .u64 4 [(0 : Int), (0 : Int), (0 : Int), (0 : Int)]), true⟩)], 4⟩, kpat [4, 5, 6, 8] 0 31, [false, false, false, true]⟩
theorem pow1_body (a : BitVec 256) (n : BitVec 256) (f : BitVec 256) (v1 : Int) (v2 : BitVec 256) (v3 : BitVec 256) (v4 : BitVec 256) : stepT powX1 100 fi_modu_power [0, 1, 0, 1] [3, 4, 5, 6, 8, 9] 4 (kpat [4, 5, 6, 8] 0 31) [false, false, false, true] (pow1_st a n f v1 v2 v3 v4) =
    (.ite (decide (v1 > (0 : Int)))
     (.ite ((iand .u64 (limb v3 0) (1 : Int)) == (1 : Int))
      (.need true
      (.leaf (.normal, pow1_st a n f (IntKind.wrap .i64 (v1 - (1 : Int))) (v2 * v2) (v3 >>> 1) (v4 * v2))))
      (.need true
      (.leaf (.normal, pow1_st a n f (IntKind.wrap .i64 (v1 - (1 : Int))) (v2 * v2) (v3 >>> 1) v4))))
     (.leaf ((.exit 0), pow1_st a n f v1 v2 v3 v4))) := by kernel_rfl
theorem pow1_rule {σ : Type} (st : σ → KS) (Inv : σ → Prop) (μ : σ → Nat) (R : Ex → St → Prop) (hH : ∀ v, (st v).s.H.length ≤ 4) (hstep : ∀ v, Inv v → ∃ X : EnvT Try.prog, (stepT X 100 fi_modu_power [0, 1, 0, 1] [3, 4, 5, 6, 8, 9] 4 (kpat [4, 5, 6, 8] 0 31) [false, false, false, true] (st v)).holds (Round st Inv μ R v)) (v0 : σ) (h0 : Inv v0) : CodeR Try.prog (.loop (loopAt fi_modu_power [0, 1, 0, 1])) (st v0).s R :=
  loop_rule mixed fi_modu_power [0, 1, 0, 1] [3, 4, 5, 6, 8, 9] 4 (kpat [4, 5, 6, 8] 0 31) [false, false, false, true] st 100 Inv μ R (loop_sub' (c := loopAt fi_modu_power [0, 1, 0, 1]) (by kernel_rfl)) hH hstep v0 h0
-- entry: pow1_st a n f (((blen (BitVec.toNat n)) : Nat) : Int) a n f


theorem pow1Sub : subC fi_modu_power.body [0, 1, 0, 1] = some (.loop (loopAt fi_modu_power [0, 1, 0, 1])) := loop_sub' (c := loopAt fi_modu_power [0, 1, 0, 1]) (by kernel_rfl)
theorem pow1_loop (a n f : BitVec 256) : CodeR Try.prog (.loop (loopAt fi_modu_power [0, 1, 0, 1])) (pow1_st a n f (blen n.toNat : Nat) a n f).s
    (fun e s' => e = .exit 0 ∧ s' = (pow1_st a n f 0 (rA (fun x y => x * y) (blen n.toNat) a n f) (rN (fun x y => x * y) (blen n.toNat) a n f) (rF (fun x y => x * y) (blen n.toNat) a n f)).s) := by
  have hK : blen n.toNat ≤ 256 := blen_le n.isLt
  generalize blen n.toNat = K at *
  refine pow1_rule (σ := Nat) (fun j => pow1_st a n f (K - j : Nat) (rA (fun x y => x * y) j a n f) (rN (fun x y => x * y) j a n f) (rF (fun x y => x * y) j a n f)) (fun j => j ≤ K) (fun j => K - j) _ (fun _ => Nat.le_refl 4) ?_ 0 (by omega)
  intro j hj
  refine ⟨powX1, ?_⟩
  rw [pow1_body]
  obtain ⟨s, hs⟩ : ∃ s, rnds (fun x y => x * y) j (a, n, f) = s := ⟨_, rfl⟩
  have hn : rnds (fun x y => x * y) (j + 1) (a, n, f) = rnd (fun x y => x * y) s := by show rnd _ (rnds _ j _) = _; rw [hs]
  simp only [rA, rN, rF, hs]
  refine ⟨fun hc => ?_, fun hc => ?_⟩
  · have hlt : j < K := by simp at hc; omega
    have e1 : IntKind.wrap .i64 (((K - j : Nat) : Int) - 1) = ((K - (j + 1) : Nat) : Int) := by rw [wrap_i64_in (by omega) (by omega)]; omega
    rw [e1]
    refine ⟨fun hb => ⟨rfl, j + 1, by omega, by dsimp only; omega, ?_⟩, fun hb => ⟨rfl, j + 1, by omega, by dsimp only; omega, ?_⟩⟩
    · simp only [rA, rN, rF, hn, rnd, b0, hb, if_true]; exact Sim.refl _
    · simp only [rA, rN, rF, hn, rnd, b0, hb]; exact Sim.refl _
  · have hlt : j = K := by simp at hc; omega
    subst hlt
    simp only [rA, rN, rF, hs, Nat.sub_self]
    exact ⟨rfl, rfl⟩
noncomputable def pow1LC (a n f : BitVec 256) : LCT Try.prog := LCT.one fi_modu_power [0, 1, 0, 1] _ _ (pow1_st a n f 0 (rA (fun x y => x * y) (blen n.toNat) a n f) (rN (fun x y => x * y) (blen n.toNat) a n f) (rF (fun x y => x * y) (blen n.toNat) a n f)) pow1Sub (pow1_loop a n f)
noncomputable def pow1X (a n f : BitVec 256) : EnvT Try.prog := { cs := [c_num_Mul, c_powm, c_num_Bits, c_num_Shr], fis := [fi_modu_power], lcs := [pow1LC a n f] }
noncomputable def pow2_st (a : BitVec 256) (n : BitVec 256) (f : BitVec 256) (m : BitVec 256) (v1 : Int) (v2 : BitVec 256) (v3 : BitVec 256) (v4 : BitVec 256) : KS := ⟨⟨pat' [(3, (.fn 122 [(.ptr 0 [])])), (4, (.ptr 1 [])), (5, (.ptr 2 [])), (6, (.ptr 3 [])), (8, (.ptr 4 [])), (9, (.int .i64 v1))] 0 31, [(some ⟨24, (.u m), false⟩), (some ⟨24, (.u v2), true⟩), (some ⟨24, (.u v3), true⟩), (some ⟨24, (.u v4), true⟩), (some ⟨24, (.ints .u64 4 [(0 : Int), (0 : Int), (0 : Int), (0 : Int)]), true⟩)], 5⟩, kpat [4, 5, 6, 8] 0 31, [false, false, false, false, true]⟩
theorem pow2_body (a : BitVec 256) (n : BitVec 256) (f : BitVec 256) (m : BitVec 256) (v1 : Int) (v2 : BitVec 256) (v3 : BitVec 256) (v4 : BitVec 256) : stepT powX1 100 fi_modu_power [0, 1, 0, 1] [3, 4, 5, 6, 8, 9] 5 (kpat [4, 5, 6, 8] 0 31) [false, false, false, false, true] (pow2_st a n f m v1 v2 v3 v4) =
    (.ite (decide (v1 > (0 : Int)))
     (.ite ((iand .u64 (limb v3 0) (1 : Int)) == (1 : Int))
      (.need true
      (.leaf (.normal, pow2_st a n f m (IntKind.wrap .i64 (v1 - (1 : Int))) (mulm v2 v2 m) (v3 >>> 1) (mulm v4 v2 m))))
      (.need true
      (.leaf (.normal, pow2_st a n f m (IntKind.wrap .i64 (v1 - (1 : Int))) (mulm v2 v2 m) (v3 >>> 1) v4))))
     (.leaf ((.exit 0), pow2_st a n f m v1 v2 v3 v4))) := by kernel_rfl
theorem pow2_rule {σ : Type} (st : σ → KS) (Inv : σ → Prop) (μ : σ → Nat) (R : Ex → St → Prop) (hH : ∀ v, (st v).s.H.length ≤ 5) (hstep : ∀ v, Inv v → ∃ X : EnvT Try.prog, (stepT X 100 fi_modu_power [0, 1, 0, 1] [3, 4, 5, 6, 8, 9] 5 (kpat [4, 5, 6, 8] 0 31) [false, false, false, false, true] (st v)).holds (Round st Inv μ R v)) (v0 : σ) (h0 : Inv v0) : CodeR Try.prog (.loop (loopAt fi_modu_power [0, 1, 0, 1])) (st v0).s R :=
  loop_rule mixed fi_modu_power [0, 1, 0, 1] [3, 4, 5, 6, 8, 9] 5 (kpat [4, 5, 6, 8] 0 31) [false, false, false, false, true] st 100 Inv μ R (loop_sub' (c := loopAt fi_modu_power [0, 1, 0, 1]) (by kernel_rfl)) hH hstep v0 h0
-- entry: pow2_st a n f m (((blen (BitVec.toNat n)) : Nat) : Int) a n f


theorem pow2Sub : subC fi_modu_power.body [0, 1, 0, 1] = some (.loop (loopAt fi_modu_power [0, 1, 0, 1])) := loop_sub' (c := loopAt fi_modu_power [0, 1, 0, 1]) (by kernel_rfl)
theorem pow2_loop (a n f m : BitVec 256) : CodeR Try.prog (.loop (loopAt fi_modu_power [0, 1, 0, 1])) (pow2_st a n f m (blen n.toNat : Nat) a n f).s
    (fun e s' => e = .exit 0 ∧ s' = (pow2_st a n f m 0 (rA (fun x y => mulm x y m) (blen n.toNat) a n f) (rN (fun x y => mulm x y m) (blen n.toNat) a n f) (rF (fun x y => mulm x y m) (blen n.toNat) a n f)).s) := by
  have hK : blen n.toNat ≤ 256 := blen_le n.isLt
  generalize blen n.toNat = K at *
  refine pow2_rule (σ := Nat) (fun j => pow2_st a n f m (K - j : Nat) (rA (fun x y => mulm x y m) j a n f) (rN (fun x y => mulm x y m) j a n f) (rF (fun x y => mulm x y m) j a n f)) (fun j => j ≤ K) (fun j => K - j) _ (fun _ => Nat.le_refl 5) ?_ 0 (by omega)
  intro j hj
  refine ⟨powX1, ?_⟩
  rw [pow2_body]
  obtain ⟨s, hs⟩ : ∃ s, rnds (fun x y => mulm x y m) j (a, n, f) = s := ⟨_, rfl⟩
  have hn : rnds (fun x y => mulm x y m) (j + 1) (a, n, f) = rnd (fun x y => mulm x y m) s := by show rnd _ (rnds _ j _) = _; rw [hs]
  simp only [rA, rN, rF, hs]
  refine ⟨fun hc => ?_, fun hc => ?_⟩
  · have hlt : j < K := by simp at hc; omega
    have e1 : IntKind.wrap .i64 (((K - j : Nat) : Int) - 1) = ((K - (j + 1) : Nat) : Int) := by rw [wrap_i64_in (by omega) (by omega)]; omega
    rw [e1]
    refine ⟨fun hb => ⟨rfl, j + 1, by omega, by dsimp only; omega, ?_⟩, fun hb => ⟨rfl, j + 1, by omega, by dsimp only; omega, ?_⟩⟩
    · simp only [rA, rN, rF, hn, rnd, b0, hb, if_true]; exact Sim.refl _
    · simp only [rA, rN, rF, hn, rnd, b0, hb]; exact Sim.refl _
  · have hlt : j = K := by simp at hc; omega
    subst hlt
    simp only [rA, rN, rF, hs, Nat.sub_self]
    exact ⟨rfl, rfl⟩
noncomputable def pow2LC (a n f m : BitVec 256) : LCT Try.prog := LCT.one fi_modu_power [0, 1, 0, 1] _ _ (pow2_st a n f m 0 (rA (fun x y => mulm x y m) (blen n.toNat) a n f) (rN (fun x y => mulm x y m) (blen n.toNat) a n f) (rF (fun x y => mulm x y m) (blen n.toNat) a n f)) pow2Sub (pow2_loop a n f m)
noncomputable def pow2X (a n f m : BitVec 256) : EnvT Try.prog := { cs := [c_num_Mul, c_powm, c_num_Bits, c_num_Shr], fis := [fi_modu_power], lcs := [pow2LC a n f m] }
end Go.Proofs.Ytakmgioeldbkcaa

/- Powers: what the rounds come to. -/
namespace Go.Proofs.Ytakmgioeldbkcaa
open Go Go.RowKit
theorem b0_eq (x : BitVec 256) : b0 x = decide (x.toNat % 2 = 1) := by
  unfold b0
  have h : limb x 0 = ((x.toNat % 2 ^ 64 : Nat) : Int) := by unfold limb; simp
  rw [h, show (1 : Int) = ((1 : Nat) : Int) from rfl, iand_nat (by omega), Nat.and_one_is_mod, Bool.eq_iff_iff, beq_iff_eq, decide_eq_true_iff]
  omega
theorem rnds_N (op : BitVec 256 → BitVec 256 → BitVec 256) (a n f : BitVec 256) : ∀ j, (rN op j a n f).toNat = n.toNat / 2 ^ j
  | 0 => by simp [rN, rnds]
  | j + 1 => by
    have ih := rnds_N op a n f j
    have e : rN op (j + 1) a n f = rN op j a n f >>> 1 := rfl
    rw [e, BitVec.toNat_ushiftRight, ih, Nat.shiftRight_eq_div_pow, Nat.div_div_eq_div_mul, Nat.pow_succ 2 j, Nat.pow_one]
theorem blen_lt (x : Nat) : x < 2 ^ blen x := by
  unfold blen
  split
  · omega
  · exact Nat.lt_log2_self
theorem pow_halve (A N : Nat) : A ^ N = (A * A) ^ (N / 2) * A ^ (N % 2) := by
  have h : N = 2 * (N / 2) + N % 2 := by omega
  conv => lhs; rw [h, Nat.pow_add, Nat.pow_mul]
  rw [Nat.pow_two]
theorem rnds_inv (op : BitVec 256 → BitVec 256 → BitVec 256) (M : Nat) (hop : ∀ x y, (op x y).toNat % M = (x.toNat * y.toNat) % M) (a n f : BitVec 256) :
    ∀ j, ((rF op j a n f).toNat * (rA op j a n f).toNat ^ (n.toNat / 2 ^ j)) % M = (f.toNat * a.toNat ^ n.toNat) % M
  | 0 => by simp [rF, rA, rnds]
  | j + 1 => by
    have ih := rnds_inv op M hop a n f j
    have hN := rnds_N op a n f j
    have eA : rA op (j + 1) a n f = op (rA op j a n f) (rA op j a n f) := rfl
    have eF : rF op (j + 1) a n f = if b0 (rN op j a n f) = true then op (rF op j a n f) (rA op j a n f) else rF op j a n f := rfl
    rw [eA, eF, b0_eq, hN]
    have hd : n.toNat / 2 ^ (j + 1) = n.toNat / 2 ^ j / 2 := by rw [Nat.pow_succ, Nat.div_div_eq_div_mul]
    rw [hd, ← ih]
    generalize n.toNat / 2 ^ j = N
    generalize rA op j a n f = A
    generalize rF op j a n f = F
    have hA := hop A A
    have hF := hop F A
    rw [pow_halve A.toNat N]
    have e1 : ∀ X : Nat, (X * (op A A).toNat ^ (N / 2)) % M = (X * (A.toNat * A.toNat) ^ (N / 2)) % M := by
      intro X
      rw [Nat.mul_mod, Nat.pow_mod, hA, ← Nat.pow_mod, ← Nat.mul_mod]
    rw [e1]
    by_cases hb : N % 2 = 1
    · rw [if_pos (by simpa using hb), hb, Nat.pow_one, Nat.mul_mod, hF, ← Nat.mul_mod, Nat.mul_assoc, Nat.mul_comm A.toNat]
    · have hb0 : N % 2 = 0 := by omega
      rw [if_neg (by simp; omega), hb0, Nat.pow_zero, Nat.mul_one]
theorem rnds_law (op : BitVec 256 → BitVec 256 → BitVec 256) (M : Nat) (hop : ∀ x y, (op x y).toNat % M = (x.toNat * y.toNat) % M) (a n f : BitVec 256) :
    (rF op (blen n.toNat) a n f).toNat % M = (f.toNat * a.toNat ^ n.toNat) % M := by
  have h := rnds_inv op M hop a n f (blen n.toNat)
  have hz : n.toNat / 2 ^ blen n.toNat = 0 := Nat.div_eq_of_lt (blen_lt n.toNat)
  rw [hz, Nat.pow_zero, Nat.mul_one] at h
  exact h
theorem rnds_all (op : BitVec 256 → BitVec 256 → BitVec 256) (p : BitVec 256 → Prop) (hop : ∀ x y, p (op x y)) (a n f : BitVec 256) (hf : p f) : ∀ j, p (rF op j a n f)
  | 0 => hf
  | j + 1 => by
    have ih := rnds_all op p hop a n f hf j
    have eF : rF op (j + 1) a n f = if b0 (rN op j a n f) = true then op (rF op j a n f) (rA op j a n f) else rF op j a n f := rfl
    rw [eF]
    split
    · exact hop _ _
    · exact ih
/-- A power, modulo 2^256; by a modulus (0, if it is 0). -/
def expU (a n : BitVec 256) : BitVec 256 := BitVec.ofNat 256 (a.toNat ^ n.toNat)
def powU (a n m : BitVec 256) : BitVec 256 := BitVec.ofNat 256 (remD (a.toNat ^ n.toNat) m.toNat)
theorem mulm_nat (a b m : BitVec 256) : (mulm a b m).toNat = remD (a.toNat * b.toNat) m.toNat := by
  unfold mulm
  rw [BitVec.toNat_ofNat]
  refine Nat.mod_eq_of_lt ?_
  unfold remD
  split
  · exact Nat.pow_pos (by decide)
  · exact Nat.lt_trans (Nat.mod_lt _ (by omega)) m.isLt
theorem exp_eq (a n : BitVec 256) : rF (fun x y => x * y) (blen n.toNat) a n 1#256 = expU a n := by
  apply BitVec.eq_of_toNat_eq
  have h := rnds_law (fun x y => x * y) (2 ^ 256) (fun x y => by rw [BitVec.toNat_mul, Nat.mod_mod]) a n 1#256
  rw [Nat.mod_eq_of_lt (BitVec.isLt _), show (1#256 : BitVec 256).toNat = 1 from rfl, Nat.one_mul] at h
  rw [h]; unfold expU
  rw [BitVec.toNat_ofNat]
theorem powU_nat (a n m : BitVec 256) : (powU a n m).toNat = remD (a.toNat ^ n.toNat) m.toNat := by
  unfold powU
  rw [BitVec.toNat_ofNat]
  refine Nat.mod_eq_of_lt ?_
  unfold remD
  split
  · exact Nat.pow_pos (by decide)
  · exact Nat.lt_trans (Nat.mod_lt _ (by omega)) m.isLt
theorem pow_eq (a n m : BitVec 256) : rF (fun x y => mulm x y m) (blen n.toNat) a n (remU 1#256 m) = powU a n m := by
  apply BitVec.eq_of_toNat_eq
  rw [powU_nat]
  have h1 : (remU 1#256 m).toNat = remD 1 m.toNat := by
    unfold remU
    rw [BitVec.toNat_ofNat, show (1#256 : BitVec 256).toNat = 1 from rfl]
    refine Nat.mod_eq_of_lt (Nat.lt_of_le_of_lt (remD_le _ _) (by decide))
  by_cases hm : m.toNat = 0
  · have h := rnds_all (fun x y => mulm x y m) (fun z => z.toNat = 0) (fun x y => by rw [mulm_nat]; unfold remD; rw [if_pos hm]) a n (remU 1#256 m) (by rw [h1]; unfold remD; rw [if_pos hm]) (blen n.toNat)
    rw [h]; unfold remD; rw [if_pos hm]
  · have hr : ∀ x, remD x m.toNat = x % m.toNat := fun x => by unfold remD; rw [if_neg hm]
    have h := rnds_law (fun x y => mulm x y m) m.toNat (fun x y => by rw [mulm_nat, hr, Nat.mod_mod]) a n (remU 1#256 m)
    have h2 := rnds_all (fun x y => mulm x y m) (fun z => z.toNat < m.toNat) (fun x y => by rw [mulm_nat, hr]; exact Nat.mod_lt _ (by omega)) a n (remU 1#256 m) (by rw [h1, hr]; exact Nat.mod_lt _ (by omega)) (blen n.toNat)
    rw [Nat.mod_eq_of_lt h2] at h
    rw [h, hr, h1, hr, Nat.mul_mod, Nat.mod_mod, ← Nat.mul_mod, Nat.one_mul]
end Go.Proofs.Ytakmgioeldbkcaa

/- Contracts: powers (modu.Exp, Pow). -/
namespace Go.Proofs.Ytakmgioeldbkcaa
open Go Go.RowKit
theorem pow1_tree (a n f : BitVec 256) : (callT (pow1X a n f) (execT (pow1X a n f) 100) 121 [.u a, .u n, .u f, .fn 61 []] [] [] 0 []).map CR.v =
    (.need ((((blen (BitVec.toNat n)) : Nat) : Int) == (((blen (BitVec.toNat n)) : Nat) : Int))
    (.need (a == a)
    (.need (n == n)
    (.need (f == f)
    (.need true
    (.need true
    (.leaf (.u (rF (fun (x : BitVec 256) (y : BitVec 256) => (x * y)) (blen (BitVec.toNat n)) a n f))))))))) := by kernel_rfl
theorem pow2_tree (a n f m : BitVec 256) : (callT (pow2X a n f m) (execT (pow2X a n f m) 100) 121 [.u a, .u n, .u f, .fn 122 [.ptr 0 []]] [] (heapK [(24, .u m)]) 1 []).map CR.v =
    (.need ((((blen (BitVec.toNat n)) : Nat) : Int) == (((blen (BitVec.toNat n)) : Nat) : Int))
    (.need (m == m)
    (.need (a == a)
    (.need (n == n)
    (.need (f == f)
    (.need true
    (.need true
    (.leaf (.u (rF (fun (x : BitVec 256) (y : BitVec 256) => (mulm x y m)) (blen (BitVec.toNat n)) a n f)))))))))) := by kernel_rfl
theorem pow1_ok (a n f : BitVec 256) : Pure Try.prog 121 [.u a, .u n, .u f, .fn 61 []] (.u (rF (fun x y => x * y) (blen n.toNat) a n f)) := by
  refine Pure.by_tree mixed _ 100 _ _ (pow1_tree a n f) ?_
  simp only [T.holds, beq_self_eq_true, true_and]
  exact (SameV.u rfl).r
theorem pow2_ok (a n f m : BitVec 256) : PureK Try.prog 121 [.u a, .u n, .u f, .fn 122 [.ptr 0 []]] [(24, .u m)] (.u (rF (fun x y => mulm x y m) (blen n.toNat) a n f)) := by
  refine PureK.by_tree mixed _ 100 _ _ _ 1 [] [] (pow2_tree a n f m) ?_
  simp only [T.holds, beq_self_eq_true, true_and]
  exact (SameV.u rfl).r
noncomputable def c_pow1 : Ctr Try.prog := Ctr.of 121 (fun | [.u a, .u n, .u f, .fn k []] => (match Nat.beq k 61 with | true => some ([], .u (rF (fun x y => x * y) (blen n.toNat) a n f)) | false => none) | _ => none) (by
  intro args ob v h hob
  split at h <;> try contradiction
  rename_i a n f k
  split at h <;> try contradiction
  rename_i hk
  have hk := Nat.eq_of_beq_eq_true hk
  subst hk
  simp only [Option.some.injEq, Prod.mk.injEq] at h
  obtain ⟨rfl, rfl⟩ := h
  exact pow1_ok a n f)
noncomputable def c_pow2 : Ctr Try.prog := Ctr.ofK 121 (fun args bs => match args, bs with
    | [.u a, .u n, .u f, .fn k [.ptr 0 []]], [(t, .u m)] => (match Nat.beq k 122 && Nat.beq t 24 with
      | true => some ([], .u (rF (fun x y => mulm x y m) (blen n.toNat) a n f))
      | false => none)
    | _, _ => none) (by
  intro args bs ob v h hob
  split at h <;> try contradiction
  rename_i a n f k t m
  split at h <;> try contradiction
  rename_i hk
  simp only [Bool.and_eq_true] at hk
  have h1 := Nat.eq_of_beq_eq_true hk.1
  have h2 := Nat.eq_of_beq_eq_true hk.2
  subst h1 h2
  simp only [Option.some.injEq, Prod.mk.injEq] at h
  obtain ⟨rfl, rfl⟩ := h
  exact pow2_ok a n f m)
noncomputable def expX : EnvT Try.prog := { cs := [c_pow1, c_mone], fis := [fi_modu_Exp] }
noncomputable def powX : EnvT Try.prog := { cs := [c_pow2, c_mone, c_num_Div], fis := [fi_modu_Pow] }
end Go.Proofs.Ytakmgioeldbkcaa

/- Contracts: Exp and Pow of modu; a difference by a modulus (the document's). -/
namespace Go.Proofs.Ytakmgioeldbkcaa
open Go Go.RowKit
theorem exp_tree (a n : BitVec 256) : (callT (expX) (execT (expX) 100) 89 [.u a, .u n] [] [] 0 []).map CR.v =
    (.leaf (.u (rF (fun (x : BitVec 256) (y : BitVec 256) => (x * y)) (blen (BitVec.toNat n)) a n (BitVec.ofNat 256 1)))) := by kernel_rfl
theorem pow_tree (a n m : BitVec 256) : (callT (powX) (execT (powX) 100) 91 [.u a, .u n, .u m] [] [] 0 []).map CR.v =
    (.leaf (.u (rF (fun (x : BitVec 256) (y : BitVec 256) => (mulm x y m)) (blen (BitVec.toNat n)) a n (remU (BitVec.ofNat 256 1) m)))) := by kernel_rfl
theorem exp_ok (a n : BitVec 256) : Pure Try.prog 89 [.u a, .u n] (.u (expU a n)) := Pure.by_tree mixed _ 100 _ _ (exp_tree a n) (SameV.u (exp_eq a n)).r
theorem mpow_ok (a n m : BitVec 256) : Pure Try.prog 91 [.u a, .u n, .u m] (.u (powU a n m)) := Pure.by_tree mixed _ 100 _ _ (pow_tree a n m) (SameV.u (pow_eq a n m)).r
noncomputable def c_exp : Ctr Try.prog := Ctr.u2 89 (fun a n => .u (expU a n)) exp_ok
noncomputable def c_pow : Ctr Try.prog := Ctr.u3 91 (fun a n m => .u (powU a n m)) mpow_ok
noncomputable def minusX : EnvT Try.prog := { cs := [c_ref_Sub, c_ref_Add], fis := [fi_truceref03_minus] }
end Go.Proofs.Ytakmgioeldbkcaa

/- Contracts: powers by the document (truceref03.Exp, Pow). -/
namespace Go.Proofs.Ytakmgioeldbkcaa
open Go Go.RowKit
noncomputable def rexp_X : EnvT Try.prog := { cs := [c_ref_Mul, c_ref_Bits, c_ref_Bit], fis := [fi_truceref03_Exp] }
noncomputable def rexp_st (a : BitVec 256) (n : BitVec 256) (v1 : Int) (v2 : BitVec 256) : KS := ⟨⟨pat' [(2, (.ptr 0 [])), (3, (.ptr 1 [])), (4, (.ptr 2 [])), (5, (.ptr 4 [])), (6, (.int .i64 v1))] 0 26, [(some ⟨24, (.u a), true⟩), (some ⟨24, (.u n), true⟩), (some ⟨24, (.ints .u64 4 [(0 : Int), (0 : Int), (0 : Int), (0 : Int)]), true⟩), none, (some ⟨24, (.u v2), true⟩)], 5⟩, kpat [2, 3, 4, 5] 0 26, [false, false, true, false, false]⟩
theorem rexp_body (a : BitVec 256) (n : BitVec 256) (v1 : Int) (v2 : BitVec 256) : stepT rexp_X 100 fi_truceref03_Exp [0, 1, 0, 1, 1] [2, 3, 4, 5, 6] 5 (kpat [2, 3, 4, 5] 0 26) [false, false, true, false, false] (rexp_st a n v1 v2) =
    (.ite (decide (v1 ≥ (0 : Int)))
     (.need ((decide ((0 : Int) ≤ v1)) && (decide (v1 < (256 : Int))))
     (.ite ((ubit n (Int.toNat v1)) == (1 : Int))
      (.leaf (.normal, rexp_st a n (IntKind.wrap .i64 (v1 - (1 : Int))) ((v2 * v2) * a)))
      (.leaf (.normal, rexp_st a n (IntKind.wrap .i64 (v1 - (1 : Int))) (v2 * v2)))))
     (.leaf ((.exit 0), rexp_st a n v1 v2))) := by kernel_rfl
theorem rexp_rule {σ : Type} (st : σ → KS) (Inv : σ → Prop) (μ : σ → Nat) (R : Ex → St → Prop) (hH : ∀ v, (st v).s.H.length ≤ 5) (hstep : ∀ v, Inv v → ∃ X : EnvT Try.prog, (stepT X 100 fi_truceref03_Exp [0, 1, 0, 1, 1] [2, 3, 4, 5, 6] 5 (kpat [2, 3, 4, 5] 0 26) [false, false, true, false, false] (st v)).holds (Round st Inv μ R v)) (v0 : σ) (h0 : Inv v0) : CodeR Try.prog (.loop (loopAt fi_truceref03_Exp [0, 1, 0, 1, 1])) (st v0).s R :=
  loop_rule mixed fi_truceref03_Exp [0, 1, 0, 1, 1] [2, 3, 4, 5, 6] 5 (kpat [2, 3, 4, 5] 0 26) [false, false, true, false, false] st 100 Inv μ R (loop_sub' (c := loopAt fi_truceref03_Exp [0, 1, 0, 1, 1]) (by kernel_rfl)) hH hstep v0 h0
-- entry: rexp_st a n (IntKind.wrap .i64 ((((blen (BitVec.toNat n)) : Nat) : Int) - (1 : Int))) (ofLimbs (1 : Int) (0 : Int) (0 : Int) (0 : Int))

noncomputable def rexp_st0 (a : BitVec 256) (n : BitVec 256) (v1 : Int) : KS := ⟨⟨pat' [(2, (.ptr 0 [])), (3, (.ptr 1 [])), (4, (.ptr 2 [])), (5, (.ptr 4 [])), (6, (.int .i64 v1))] 0 26, [(some ⟨24, (.u a), true⟩), (some ⟨24, (.u n), true⟩), (some ⟨24, (.ints .u64 4 [(0 : Int), (0 : Int), (0 : Int), (0 : Int)]), true⟩), none, (some ⟨24, (.ints .u64 4 [(1 : Int), (0 : Int), (0 : Int), (0 : Int)]), true⟩)], 5⟩, kpat [2, 3, 4, 5] 0 26, [false, false, true, false, false]⟩
theorem ubit_eq (n : BitVec 256) (i : Nat) : (ubit n i == (1 : Int)) = decide (n.toNat / 2 ^ i % 2 = 1) := by
  have h : n.getLsbD i = decide (n.toNat / 2 ^ i % 2 = 1) := by
    show n.toNat.testBit i = _
    rw [Nat.testBit_eq_decide_div_mod_eq]
  unfold ubit
  rw [h]
  by_cases hb : n.toNat / 2 ^ i % 2 = 1 <;> simp [hb]
/-- The power by the upper bits. -/
def upE (n k : Nat) : Nat := n / 2 ^ k
theorem upE_next (n k : Nat) : upE n k = 2 * upE n (k + 1) + upE n k % 2 := by
  have : upE n (k + 1) = upE n k / 2 := by unfold upE; rw [Nat.pow_succ, Nat.div_div_eq_div_mul]
  omega
theorem upE_zero (n : Nat) : upE n 0 = n := by unfold upE; simp
theorem upE_top (n : BitVec 256) : upE n.toNat (blen n.toNat) = 0 := Nat.div_eq_of_lt (blen_lt _)
def exR (a n : BitVec 256) (k : Nat) : BitVec 256 := BitVec.ofNat 256 (a.toNat ^ upE n.toNat k)
theorem exR_next (a n : BitVec 256) (k : Nat) : exR a n k = if upE n.toNat k % 2 = 1 then (exR a n (k + 1) * exR a n (k + 1)) * a else exR a n (k + 1) * exR a n (k + 1) := by
  have h := upE_next n.toNat k
  apply BitVec.eq_of_toNat_eq
  unfold exR
  have e : a.toNat ^ upE n.toNat k = (a.toNat ^ upE n.toNat (k + 1) * a.toNat ^ upE n.toNat (k + 1)) * a.toNat ^ (upE n.toNat k % 2) := by
    conv => lhs; rw [h]
    rw [Nat.pow_add, Nat.two_mul, Nat.pow_add]
  rw [e]
  generalize a.toNat ^ upE n.toNat (k + 1) = X
  split
  · rename_i hb
    rw [hb, Nat.pow_one]
    simp only [BitVec.toNat_mul, BitVec.toNat_ofNat, Nat.mul_mod, Nat.mod_mod]
  · rename_i hb
    have hb : upE n.toNat k % 2 = 0 := by omega
    rw [hb, Nat.pow_zero, Nat.mul_one]
    simp only [BitVec.toNat_mul, BitVec.toNat_ofNat, Nat.mul_mod, Nat.mod_mod]
theorem rexpSub : subC fi_truceref03_Exp.body [0, 1, 0, 1, 1] = some (.loop (loopAt fi_truceref03_Exp [0, 1, 0, 1, 1])) := loop_sub' (c := loopAt fi_truceref03_Exp [0, 1, 0, 1, 1]) (by kernel_rfl)
theorem rexp_loop (a n : BitVec 256) : CodeR Try.prog (.loop (loopAt fi_truceref03_Exp [0, 1, 0, 1, 1])) (rexp_st0 a n (IntKind.wrap .i64 ((blen n.toNat : Nat) - (1 : Int)))).s (fun e s' => e = .exit 0 ∧ s' = (rexp_st a n (-1) (expU a n)).s) := by
  have hK : blen n.toNat ≤ 256 := blen_le n.isLt
  have e0 : exR a n 0 = expU a n := by unfold exR expU; rw [upE_zero]
  have e1 : exR a n (blen n.toNat) = 1#256 := by unfold exR; rw [upE_top]; rfl
  generalize blen n.toNat = K at *
  rw [wrap_i64_in (by omega) (by omega)]
  refine CodeR.of_sim (s' := (rexp_st a n ((K : Int) - 1) (exR a n K)).s) ?_ ?_
  · refine rexp_rule (σ := Nat) (fun k => rexp_st a n ((k : Int) - 1) (exR a n k)) (fun k => k ≤ K) (fun k => k) _ (fun _ => Nat.le_refl 5) ?_ K (Nat.le_refl K)
    intro k hk
    refine ⟨rexp_X, ?_⟩
    rw [rexp_body]
    refine ⟨fun hc => ?_, fun hc => ?_⟩
    · have h0 : 0 < k := by simp at hc; omega
      obtain ⟨j, rfl⟩ : ∃ j, k = j + 1 := ⟨k - 1, by omega⟩
      have e2 : ((j + 1 : Nat) : Int) - 1 = (j : Int) := by omega
      rw [e2, toNat_c, ubit_eq, wrap_i64_in (by omega) (by omega)]
      have hn := exR_next a n j
      refine ⟨by simp; omega, fun hb => ⟨j, by omega, by dsimp only; omega, Sim.of_eq ?_⟩, fun hb => ⟨j, by omega, by dsimp only; omega, Sim.of_eq ?_⟩⟩
      · dsimp only
        rw [if_pos (show upE n.toNat j % 2 = 1 from of_decide_eq_true hb)] at hn
        rw [hn]
      · dsimp only
        rw [if_neg (show ¬ upE n.toNat j % 2 = 1 from of_decide_eq_false hb)] at hn
        rw [hn]
    · have h0 : k = 0 := by simp at hc; omega
      subst h0
      rw [e0]
      exact ⟨rfl, rfl⟩
  · rw [e1]
    exact Sim.of (SimS.refl _) ⟨⟨rfl, rfl, SimC.refl _⟩, ⟨rfl, rfl, SimC.refl _⟩, ⟨rfl, rfl, SimC.refl _⟩, trivial, ⟨rfl, rfl, SimC.u4 (by decide)⟩, trivial⟩
noncomputable def rexpLC (a n : BitVec 256) : LCT Try.prog := LCT.one fi_truceref03_Exp [0, 1, 0, 1, 1] _ _ (rexp_st a n (-1) (expU a n)) rexpSub (rexp_loop a n)
noncomputable def rexpX (a n : BitVec 256) : EnvT Try.prog := { rexp_X with lcs := [rexpLC a n] }
noncomputable def rpow_X : EnvT Try.prog := { cs := [c_rmulMod, c_rrest, c_ref_Bits, c_ref_Bit], fis := [fi_truceref03_Pow] }
noncomputable def rpow_st (a : BitVec 256) (n : BitVec 256) (m : BitVec 256) (v1 : Int) (v2 : BitVec 256) : KS := ⟨⟨pat' [(3, (.ptr 0 [])), (4, (.ptr 1 [])), (5, (.ptr 2 [])), (6, (.ptr 3 [])), (7, (.ptr 8 [])), (8, (.int .i64 v1))] 0 33, [(some ⟨24, (.u a), true⟩), (some ⟨24, (.u n), true⟩), (some ⟨24, (.u m), true⟩), (some ⟨24, (.ints .u64 4 [(0 : Int), (0 : Int), (0 : Int), (0 : Int)]), true⟩), none, none, none, none, (some ⟨24, (.u v2), true⟩)], 9⟩, kpat [3, 4, 5, 6, 7] 0 33, [false, false, false, true, false, false, false, false, false]⟩
theorem rpow_body (a : BitVec 256) (n : BitVec 256) (m : BitVec 256) (v1 : Int) (v2 : BitVec 256) : stepT rpow_X 100 fi_truceref03_Pow [0, 1, 0, 1, 1] [3, 4, 5, 6, 7, 8] 9 (kpat [3, 4, 5, 6, 7] 0 33) [false, false, false, true, false, false, false, false, false] (rpow_st a n m v1 v2) =
    (.ite (decide (v1 ≥ (0 : Int)))
     (.need ((decide ((0 : Int) ≤ v1)) && (decide (v1 < (256 : Int))))
     (.ite ((ubit n (Int.toNat v1)) == (1 : Int))
      (.leaf (.normal, rpow_st a n m (IntKind.wrap .i64 (v1 - (1 : Int))) (mulm (mulm v2 v2 m) a m)))
      (.leaf (.normal, rpow_st a n m (IntKind.wrap .i64 (v1 - (1 : Int))) (mulm v2 v2 m)))))
     (.leaf ((.exit 0), rpow_st a n m v1 v2))) := by kernel_rfl
theorem rpow_rule {σ : Type} (st : σ → KS) (Inv : σ → Prop) (μ : σ → Nat) (R : Ex → St → Prop) (hH : ∀ v, (st v).s.H.length ≤ 9) (hstep : ∀ v, Inv v → ∃ X : EnvT Try.prog, (stepT X 100 fi_truceref03_Pow [0, 1, 0, 1, 1] [3, 4, 5, 6, 7, 8] 9 (kpat [3, 4, 5, 6, 7] 0 33) [false, false, false, true, false, false, false, false, false] (st v)).holds (Round st Inv μ R v)) (v0 : σ) (h0 : Inv v0) : CodeR Try.prog (.loop (loopAt fi_truceref03_Pow [0, 1, 0, 1, 1])) (st v0).s R :=
  loop_rule mixed fi_truceref03_Pow [0, 1, 0, 1, 1] [3, 4, 5, 6, 7, 8] 9 (kpat [3, 4, 5, 6, 7] 0 33) [false, false, false, true, false, false, false, false, false] st 100 Inv μ R (loop_sub' (c := loopAt fi_truceref03_Pow [0, 1, 0, 1, 1]) (by kernel_rfl)) hH hstep v0 h0
-- entry: rpow_st a n m (IntKind.wrap .i64 ((((blen (BitVec.toNat n)) : Nat) : Int) - (1 : Int))) (restU (ofLimbs (0 : Int) (0 : Int) (0 : Int) (0 : Int)) (ofLimbs (1 : Int) (0 : Int) (0 : Int) (0 : Int)) m)


def poR (a n m : BitVec 256) (k : Nat) : BitVec 256 := BitVec.ofNat 256 (remD (a.toNat ^ upE n.toNat k) m.toNat)
theorem remD_lt256 (x : Nat) (m : BitVec 256) : remD x m.toNat < 2 ^ 256 := by
  unfold remD
  split
  · exact Nat.pow_pos (by decide)
  · exact Nat.lt_trans (Nat.mod_lt _ (by omega)) m.isLt
theorem remD_nat (x : Nat) (m : BitVec 256) : (BitVec.ofNat 256 (remD x m.toNat)).toNat = remD x m.toNat := by rw [BitVec.toNat_ofNat]; exact Nat.mod_eq_of_lt (remD_lt256 x m)
theorem remD_mul (x y m : Nat) : remD (remD x m * remD y m) m = remD (x * y) m := by
  unfold remD
  by_cases h : m = 0
  · simp [h]
  · simp only [h, if_false]; rw [← Nat.mul_mod]
theorem remD_mul_l (x y m : Nat) : remD (remD x m * y) m = remD (x * y) m := by
  unfold remD
  by_cases h : m = 0
  · simp [h]
  · simp only [h, if_false]; rw [Nat.mul_mod, Nat.mod_mod, ← Nat.mul_mod]
theorem poR_next (a n m : BitVec 256) (k : Nat) : poR a n m k = if upE n.toNat k % 2 = 1 then mulm (mulm (poR a n m (k + 1)) (poR a n m (k + 1)) m) a m else mulm (poR a n m (k + 1)) (poR a n m (k + 1)) m := by
  have h := upE_next n.toNat k
  have e : a.toNat ^ upE n.toNat k = (a.toNat ^ upE n.toNat (k + 1) * a.toNat ^ upE n.toNat (k + 1)) * a.toNat ^ (upE n.toNat k % 2) := by
    conv => lhs; rw [h]
    rw [Nat.pow_add, Nat.two_mul, Nat.pow_add]
  unfold poR
  rw [e]
  generalize a.toNat ^ upE n.toNat (k + 1) = X
  split
  · rename_i hb
    rw [hb, Nat.pow_one]
    unfold mulm
    rw [remD_nat, remD_nat, remD_mul, remD_mul_l]
  · rename_i hb
    have hb : upE n.toNat k % 2 = 0 := by omega
    rw [hb, Nat.pow_zero, Nat.mul_one]
    unfold mulm
    rw [remD_nat, remD_mul]
theorem rpowSub : subC fi_truceref03_Pow.body [0, 1, 0, 1, 1] = some (.loop (loopAt fi_truceref03_Pow [0, 1, 0, 1, 1])) := loop_sub' (c := loopAt fi_truceref03_Pow [0, 1, 0, 1, 1]) (by kernel_rfl)
theorem rpow_start (m : BitVec 256) : restU (ofLimbs 0 0 0 0) (ofLimbs 1 0 0 0) m = BitVec.ofNat 256 (remD 1 m.toNat) := by
  rw [limbsZero, limbsOne, rest_zero]; rfl
theorem rpow_loop (a n m : BitVec 256) : CodeR Try.prog (.loop (loopAt fi_truceref03_Pow [0, 1, 0, 1, 1])) (rpow_st a n m (IntKind.wrap .i64 ((blen n.toNat : Nat) - (1 : Int))) (restU (ofLimbs 0 0 0 0) (ofLimbs 1 0 0 0) m)).s (fun e s' => e = .exit 0 ∧ s' = (rpow_st a n m (-1) (powU a n m)).s) := by
  have hK : blen n.toNat ≤ 256 := blen_le n.isLt
  have e0 : poR a n m 0 = powU a n m := by unfold poR powU; rw [upE_zero]
  have e1 : poR a n m (blen n.toNat) = BitVec.ofNat 256 (remD 1 m.toNat) := by unfold poR; rw [upE_top]; rfl
  rw [rpow_start, ← e1]
  generalize blen n.toNat = K at *
  rw [wrap_i64_in (by omega) (by omega)]
  refine rpow_rule (σ := Nat) (fun k => rpow_st a n m ((k : Int) - 1) (poR a n m k)) (fun k => k ≤ K) (fun k => k) _ (fun _ => Nat.le_refl 9) ?_ K (Nat.le_refl K)
  intro k hk
  refine ⟨rpow_X, ?_⟩
  rw [rpow_body]
  refine ⟨fun hc => ?_, fun hc => ?_⟩
  · have h0 : 0 < k := by simp at hc; omega
    obtain ⟨j, rfl⟩ : ∃ j, k = j + 1 := ⟨k - 1, by omega⟩
    have e2 : ((j + 1 : Nat) : Int) - 1 = (j : Int) := by omega
    rw [e2, toNat_c, ubit_eq, wrap_i64_in (by omega) (by omega)]
    have hn := poR_next a n m j
    refine ⟨by simp; omega, fun hb => ⟨j, by omega, by dsimp only; omega, Sim.of_eq ?_⟩, fun hb => ⟨j, by omega, by dsimp only; omega, Sim.of_eq ?_⟩⟩
    · dsimp only
      rw [if_pos (show upE n.toNat j % 2 = 1 from of_decide_eq_true hb)] at hn
      rw [hn]
    · dsimp only
      rw [if_neg (show ¬ upE n.toNat j % 2 = 1 from of_decide_eq_false hb)] at hn
      rw [hn]
  · have h0 : k = 0 := by simp at hc; omega
    subst h0
    rw [e0]
    exact ⟨rfl, rfl⟩
noncomputable def rpowLC (a n m : BitVec 256) : LCT Try.prog := LCT.one fi_truceref03_Pow [0, 1, 0, 1, 1] _ _ (rpow_st a n m (-1) (powU a n m)) rpowSub (rpow_loop a n m)
noncomputable def rpowX (a n m : BitVec 256) : EnvT Try.prog := { rpow_X with lcs := [rpowLC a n m] }
end Go.Proofs.Ytakmgioeldbkcaa

/- Contracts: powers by the document; a difference by a modulus. -/
namespace Go.Proofs.Ytakmgioeldbkcaa
open Go Go.RowKit
theorem rexp_tree (a n : BitVec 256) : (callT (rexpX a n) (execT (rexpX a n) 100) 90 [.u a, .u n] [] [] 0 []).map CR.v =
    (.need ((IntKind.wrap .i64 ((((blen (BitVec.toNat n)) : Nat) : Int) - (1 : Int))) == (IntKind.wrap .i64 ((((blen (BitVec.toNat n)) : Nat) : Int) - (1 : Int))))
    (.need (a == a)
    (.need (n == n)
    (.need true
    (.need true
    (.need true
    (.leaf (.u (expU a n))))))))) := by kernel_rfl
theorem rpow_tree (a n m : BitVec 256) : (callT (rpowX a n m) (execT (rpowX a n m) 100) 92 [.u a, .u n, .u m] [] [] 0 []).map CR.v =
    (.need true
    (.need true
    (.need ((IntKind.wrap .i64 ((((blen (BitVec.toNat n)) : Nat) : Int) - (1 : Int))) == (IntKind.wrap .i64 ((((blen (BitVec.toNat n)) : Nat) : Int) - (1 : Int))))
    (.need (a == a)
    (.need (n == n)
    (.need (m == m)
    (.need true
    (.need ((restU (ofLimbs (0 : Int) (0 : Int) (0 : Int) (0 : Int)) (ofLimbs (1 : Int) (0 : Int) (0 : Int) (0 : Int)) m) == (restU (ofLimbs (0 : Int) (0 : Int) (0 : Int) (0 : Int)) (ofLimbs (1 : Int) (0 : Int) (0 : Int) (0 : Int)) m))
    (.need true
    (.leaf (.u (powU a n m)))))))))))) := by kernel_rfl
theorem rexp_ok (a n : BitVec 256) : Pure Try.prog 90 [.u a, .u n] (.u (expU a n)) := by
  refine Pure.by_tree mixed _ 100 _ _ (rexp_tree a n) ?_
  simp only [T.holds, beq_self_eq_true, true_and]
  exact (SameV.u rfl).r
theorem rpow_ok (a n m : BitVec 256) : Pure Try.prog 92 [.u a, .u n, .u m] (.u (powU a n m)) := by
  refine Pure.by_tree mixed _ 100 _ _ (rpow_tree a n m) ?_
  simp only [T.holds, beq_self_eq_true, true_and]
  exact (SameV.u rfl).r
noncomputable def c_rexp : Ctr Try.prog := Ctr.u2 90 (fun a n => .u (expU a n)) rexp_ok
noncomputable def c_rpow : Ctr Try.prog := Ctr.u3 92 (fun a n m => .u (powU a n m)) rpow_ok
theorem minus_tree (a b m : BitVec 256) : (callT (minusX) (execT (minusX) 100) 120 [.u a, .u b, .u m] [] [] 0 []).map CR.v =
    (.ite (uless a b)
     (.leaf (.u ((a - b) + m)))
     (.leaf (.u (a - b)))) := by kernel_rfl
def minusU (a b m : BitVec 256) : BitVec 256 := if uless a b = true then (a - b) + m else a - b
theorem minus_ok (a b m : BitVec 256) : Pure Try.prog 120 [.u a, .u b, .u m] (.u (minusU a b m)) := by
  refine Pure.by_tree mixed _ 100 _ _ (minus_tree a b m) ⟨fun h => ?_, fun h => ?_⟩
  · unfold minusU; rw [if_pos h]; exact (SameV.u rfl).r
  · unfold minusU; rw [if_neg (by simp [h])]; exact (SameV.u rfl).r
noncomputable def c_rminus : Ctr Try.prog := Ctr.u3 120 (fun a b m => .u (minusU a b m)) minus_ok
end Go.Proofs.Ytakmgioeldbkcaa

/- The loops of the two ways to an inverse: their rounds. -/
namespace Go.Proofs.Ytakmgioeldbkcaa
open Go Go.RowKit
noncomputable def inv_X : EnvT Try.prog := { cs := [c_mone, c_num_Cmp, c_num_Div, c_mulMod, c_num_Sub, c_addMod], fis := [fi_modu_Inverse] }
noncomputable def inv_st (a : BitVec 256) (m : BitVec 256) (v1 : BitVec 256) (v2 : BitVec 256) (v3 : BitVec 256) (v4 : BitVec 256) : KS := ⟨⟨pat' [(3, (.ptr 1 [])), (4, (.ptr 2 [])), (5, (.bool false)), (8, (.ptr 23 [])), (9, (.ptr 24 []))] 0 67, [(some ⟨24, (.u a), true⟩), (some ⟨24, (.u m), true⟩), (some ⟨24, (.ints .u64 4 [(0 : Int), (0 : Int), (0 : Int), (0 : Int)]), true⟩), none, none, none, none, none, none, none, none, none, none, none, (some ⟨24, (.u (a / m)), true⟩), (some ⟨24, (.u (remU a m)), true⟩), none, none, none, none, none, none, none, (some ⟨95, (.agg [(.u v1), (.u v2)]), true⟩), (some ⟨95, (.agg [(.u v3), (.u v4)]), true⟩)], 25⟩, kpat [3, 4, 5, 8, 9] 0 67, [false, false, true, false, false, false, false, false, false, false, false, false, false, false, false, false, false, false, false, false, false, false, false, false, false]⟩
theorem inv_body (a : BitVec 256) (m : BitVec 256) (v1 : BitVec 256) (v2 : BitVec 256) (v3 : BitVec 256) (v4 : BitVec 256) : stepT inv_X 100 fi_modu_Inverse [0, 0, 1, 1, 1, 1] [3, 4, 5, 8, 9] 25 (kpat [3, 4, 5, 8, 9] 0 67) [false, false, true, false, false, false, false, false, false, false, false, false, false, false, false, false, false, false, false, false, false, false, false, false, false] (inv_st a m v1 v2 v3 v4) =
    (.need true
    (.ite (!(v3 == (ofLimbs (0 : Int) (0 : Int) (0 : Int) (0 : Int))))
     (.leaf (.normal, inv_st a m v3 v4 (remU v1 v3) (addm v2 (m - (mulm (v1 / v3) v4 m)) m)))
     (.leaf ((.exit 0), inv_st a m v1 v2 v3 v4)))) := by kernel_rfl
theorem inv_rule {σ : Type} (st : σ → KS) (Inv : σ → Prop) (μ : σ → Nat) (R : Ex → St → Prop) (hH : ∀ v, (st v).s.H.length ≤ 25) (hstep : ∀ v, Inv v → ∃ X : EnvT Try.prog, (stepT X 100 fi_modu_Inverse [0, 0, 1, 1, 1, 1] [3, 4, 5, 8, 9] 25 (kpat [3, 4, 5, 8, 9] 0 67) [false, false, true, false, false, false, false, false, false, false, false, false, false, false, false, false, false, false, false, false, false, false, false, false, false] (st v)).holds (Round st Inv μ R v)) (v0 : σ) (h0 : Inv v0) : CodeR Try.prog (.loop (loopAt fi_modu_Inverse [0, 0, 1, 1, 1, 1])) (st v0).s R :=
  loop_rule mixed fi_modu_Inverse [0, 0, 1, 1, 1, 1] [3, 4, 5, 8, 9] 25 (kpat [3, 4, 5, 8, 9] 0 67) [false, false, true, false, false, false, false, false, false, false, false, false, false, false, false, false, false, false, false, false, false, false, false, false, false] st 100 Inv μ R (loop_sub' (c := loopAt fi_modu_Inverse [0, 0, 1, 1, 1, 1]) (by kernel_rfl)) hH hstep v0 h0
-- entry: inv_st a m m (ofLimbs (0 : Int) (0 : Int) (0 : Int) (0 : Int)) (remU a m) (BitVec.ofNat 256 1)

noncomputable def inv_st0 (a : BitVec 256) (m : BitVec 256) : KS := ⟨⟨pat' [(3, (.ptr 1 [])), (4, (.ptr 2 [])), (5, (.bool false)), (8, (.ptr 23 [])), (9, (.ptr 24 []))] 0 67, [(some ⟨24, (.u a), true⟩), (some ⟨24, (.u m), true⟩), (some ⟨24, (.ints .u64 4 [(0 : Int), (0 : Int), (0 : Int), (0 : Int)]), true⟩), none, none, none, none, none, none, none, none, none, none, none, (some ⟨24, (.u (a / m)), true⟩), (some ⟨24, (.u (remU a m)), true⟩), none, none, none, none, none, none, none, (some ⟨95, (.agg [(.u m), (.ints .u64 4 [(0 : Int), (0 : Int), (0 : Int), (0 : Int)])]), true⟩), (some ⟨95, (.agg [(.u (remU a m)), (.u (BitVec.ofNat 256 1))]), true⟩)], 25⟩, kpat [3, 4, 5, 8, 9] 0 67, [false, false, true, false, false, false, false, false, false, false, false, false, false, false, false, false, false, false, false, false, false, false, false, false, false]⟩
noncomputable def rinv_X : EnvT Try.prog := { cs := [c_ref_Cmp, c_rdiv, c_rmulMod, c_rminus], fis := [fi_truceref03_Inverse] }
noncomputable def rinv_st (a : BitVec 256) (m : BitVec 256) (v1 : Int) (v2 : BitVec 256) (v3 : BitVec 256) (v4 : BitVec 256) (v5 : BitVec 256) : KS := ⟨⟨pat' [(3, (.ptr 1 [])), (4, (.ptr 2 [])), (5, (.bool false)), (6, (.ptr 5 [])), (8, (.ptr 18 [])), (9, (.ptr 22 [])), (10, (.ptr 25 [])), (11, (.ptr 28 [])), (12, (.int .i64 v1))] 0 62, [(some ⟨24, (.u a), true⟩), (some ⟨24, (.u m), true⟩), (some ⟨24, (.ints .u64 4 [(0 : Int), (0 : Int), (0 : Int), (0 : Int)]), true⟩), none, none, (some ⟨24, (.ints .u64 4 [(1 : Int), (0 : Int), (0 : Int), (0 : Int)]), true⟩), none, none, none, none, none, none, none, none, none, none, none, (some ⟨24, (.u (a / m)), true⟩), (some ⟨24, (.u v2), true⟩), none, none, none, (some ⟨24, (.u v3), true⟩), none, none, (some ⟨24, (.u v4), true⟩), none, none, (some ⟨24, (.u v5), true⟩)], 29⟩, kpat [3, 4, 5, 6, 8, 9, 10, 11] 0 62, [false, false, true, false, false, false, false, false, false, false, false, false, false, false, false, false, false, false, false, false, false, false, false, false, false, false, false, false, false]⟩
noncomputable def rinv_st0 (a : BitVec 256) (m : BitVec 256) : KS := ⟨⟨pat' [(3, (.ptr 1 [])), (4, (.ptr 2 [])), (5, (.bool false)), (6, (.ptr 5 [])), (8, (.ptr 18 [])), (9, (.ptr 22 [])), (10, (.ptr 25 [])), (11, (.ptr 28 [])), (12, (.int .i64 (0 : Int)))] 0 62, [(some ⟨24, (.u a), true⟩), (some ⟨24, (.u m), true⟩), (some ⟨24, (.ints .u64 4 [(0 : Int), (0 : Int), (0 : Int), (0 : Int)]), true⟩), none, none, (some ⟨24, (.ints .u64 4 [(1 : Int), (0 : Int), (0 : Int), (0 : Int)]), true⟩), none, none, none, none, none, none, none, none, none, none, none, (some ⟨24, (.u (a / m)), true⟩), (some ⟨24, (.u (remU a m)), true⟩), none, none, none, (some ⟨24, (.u m), true⟩), none, none, (some ⟨24, (.ints .u64 4 [(1 : Int), (0 : Int), (0 : Int), (0 : Int)]), true⟩), none, none, (some ⟨24, (.ints .u64 4 [(0 : Int), (0 : Int), (0 : Int), (0 : Int)]), true⟩)], 29⟩, kpat [3, 4, 5, 6, 8, 9, 10, 11] 0 62, [false, false, true, false, false, false, false, false, false, false, false, false, false, false, false, false, false, false, false, false, false, false, false, false, false, false, false, false, false]⟩
theorem rinv_body (a : BitVec 256) (m : BitVec 256) (i : Int) (r : BitVec 256) (old : BitVec 256) (t : BitVec 256) (before : BitVec 256) : stepT rinv_X 100 fi_truceref03_Inverse [0, 1, 0, 1, 1, 1, 1, 1, 1, 1] [3, 4, 5, 6, 8, 9, 10, 11, 12] 29 (kpat [3, 4, 5, 6, 8, 9, 10, 11] 0 62) [false, false, true, false, false, false, false, false, false, false, false, false, false, false, false, false, false, false, false, false, false, false, false, false, false, false, false, false, false] (rinv_st a m i r old t before) =
    (.ite (decide (i < (800 : Int)))
     (.need true
     (.ite (!(r == (ofLimbs (0 : Int) (0 : Int) (0 : Int) (0 : Int))))
      (.leaf (.normal, rinv_st a m (IntKind.wrap .i64 (i + (1 : Int))) (remU old r) r (minusU before (mulm (old / r) t m) m) t))
      (.leaf ((.exit 0), rinv_st a m i r old t before))))
     (.leaf ((.exit 0), rinv_st a m i r old t before))) := by kernel_rfl
theorem rinv_rule {σ : Type} (st : σ → KS) (Inv : σ → Prop) (μ : σ → Nat) (R : Ex → St → Prop) (hH : ∀ v, (st v).s.H.length ≤ 29) (hstep : ∀ v, Inv v → ∃ X : EnvT Try.prog, (stepT X 100 fi_truceref03_Inverse [0, 1, 0, 1, 1, 1, 1, 1, 1, 1] [3, 4, 5, 6, 8, 9, 10, 11, 12] 29 (kpat [3, 4, 5, 6, 8, 9, 10, 11] 0 62) [false, false, true, false, false, false, false, false, false, false, false, false, false, false, false, false, false, false, false, false, false, false, false, false, false, false, false, false, false] (st v)).holds (Round st Inv μ R v)) (v0 : σ) (h0 : Inv v0) : CodeR Try.prog (.loop (loopAt fi_truceref03_Inverse [0, 1, 0, 1, 1, 1, 1, 1, 1, 1])) (st v0).s R :=
  loop_rule mixed fi_truceref03_Inverse [0, 1, 0, 1, 1, 1, 1, 1, 1, 1] [3, 4, 5, 6, 8, 9, 10, 11, 12] 29 (kpat [3, 4, 5, 6, 8, 9, 10, 11] 0 62) [false, false, true, false, false, false, false, false, false, false, false, false, false, false, false, false, false, false, false, false, false, false, false, false, false, false, false, false, false] st 100 Inv μ R (loop_sub' (c := loopAt fi_truceref03_Inverse [0, 1, 0, 1, 1, 1, 1, 1, 1, 1]) (by kernel_rfl)) hH hstep v0 h0
end Go.Proofs.Ytakmgioeldbkcaa

/- Euclid's way to an inverse. -/
namespace Go.Proofs.Ytakmgioeldbkcaa
open Go Go.RowKit
structure E4 where
  r0 : BitVec 256
  t0 : BitVec 256
  r1 : BitVec 256
  t1 : BitVec 256
def eStep (m : BitVec 256) (s : E4) : E4 := ⟨s.r1, s.t1, remU s.r0 s.r1, addm s.t0 (m - mulm (s.r0 / s.r1) s.t1 m) m⟩
def eRun (m : BitVec 256) : Nat → E4 → E4
  | 0, s => s
  | k + 1, s => if s.r1 = 0#256 then s else eRun m k (eStep m s)
theorem eRun_zero {m : BitVec 256} {s : E4} (h : s.r1 = 0#256) : ∀ k, eRun m k s = s
  | 0 => rfl
  | k + 1 => by simp [eRun, h]
theorem eRun_next {m : BitVec 256} {s : E4} (h : s.r1 ≠ 0#256) (k : Nat) : eRun m (k + 1) s = eRun m k (eStep m s) := by simp [eRun, h]
theorem eRun_stable (m : BitVec 256) : ∀ (k : Nat) (s : E4), (eRun m k s).r1 = 0#256 → eRun m (k + 1) s = eRun m k s
  | 0, s, h => eRun_zero (s := s) h 1
  | k + 1, s, h => by
    by_cases hz : s.r1 = 0#256
    · rw [eRun_zero hz, eRun_zero hz]
    · rw [eRun_next hz] at h
      rw [eRun_next hz, eRun_next hz, eRun_stable m k (eStep m s) h]
theorem remU_nat (a b : BitVec 256) : (remU a b).toNat = remD a.toNat b.toNat := by
  unfold remU
  rw [BitVec.toNat_ofNat]
  exact Nat.mod_eq_of_lt (Nat.lt_of_le_of_lt (remD_le _ _) a.isLt)
theorem u_zero {x : BitVec 256} : x = 0#256 ↔ x.toNat = 0 := ⟨fun h => by rw [h]; rfl, fun h => BitVec.eq_of_toNat_eq h⟩
theorem eStep_r1 {m : BitVec 256} {s : E4} (h : s.r1 ≠ 0#256) : (eStep m s).r1.toNat = s.r0.toNat % s.r1.toNat := by
  have h : s.r1.toNat ≠ 0 := fun e => h (u_zero.2 e)
  show (remU s.r0 s.r1).toNat = _
  rw [remU_nat]; unfold remD; rw [if_neg h]
theorem eRun_fin (m : BitVec 256) : ∀ (j : Nat) (s : E4), s.r1.toNat < 2 ^ j → (eRun m (2 * j) s).r1 = 0#256
  | 0, s, h => by
    have : s.r1.toNat = 0 := by simpa using h
    exact u_zero.2 this
  | j + 1, s, h => by
    show (eRun m (2 * j + 1 + 1) s).r1 = _
    by_cases h0 : s.r1 = 0#256
    · rw [eRun_zero h0]; exact h0
    · rw [eRun_next h0]
      by_cases h1 : (eStep m s).r1 = 0#256
      · rw [eRun_zero h1]; exact h1
      · rw [eRun_next h1]
        apply eRun_fin m j
        rw [eStep_r1 h1]
        have e1 := eStep_r1 (m := m) h0
        have e2 : (eStep m s).r0 = s.r1 := rfl
        have n0 : s.r1.toNat ≠ 0 := fun e => h0 (u_zero.2 e)
        have n1 : (eStep m s).r1.toNat ≠ 0 := fun e => h1 (u_zero.2 e)
        have l1 : (eStep m s).r1.toNat < s.r1.toNat := by rw [e1]; exact Nat.mod_lt _ (by omega)
        rw [e2]
        generalize (eStep m s).r1.toNat = y at *
        generalize s.r1.toNat = x at *
        have l2 : x % y < y := Nat.mod_lt _ (by omega)
        have l3 : x % y + y ≤ x := by
          have := Nat.mod_add_div x y
          have hd : 1 ≤ x / y := (Nat.le_div_iff_mul_le (by omega)).2 (by omega)
          have : y * 1 ≤ y * (x / y) := Nat.mul_le_mul_left _ hd
          omega
        rw [Nat.pow_succ] at h
        omega
theorem eRun_add (m : BitVec 256) (k : Nat) (s : E4) (h : (eRun m k s).r1 = 0#256) : ∀ j, eRun m (k + j) s = eRun m k s
  | 0 => rfl
  | j + 1 => by
    have ih := eRun_add m k s h j
    have := eRun_stable m (k + j) s (by rw [ih]; exact h)
    rw [← ih]; exact this
theorem eRun_done (m : BitVec 256) (s : E4) : (eRun m 800 s).r1 = 0#256 := by
  have h := eRun_fin m 256 s s.r1.isLt
  have := eRun_add m 512 s h 288
  rw [this]; exact h
theorem eRun_same {m : BitVec 256} {s : E4} (h : s.r1 ≠ 0#256) : eRun m 800 (eStep m s) = eRun m 800 s := by
  rw [← eRun_next h, eRun_stable m 800 s (eRun_done m s)]
def eStart (a m : BitVec 256) : E4 := ⟨m, 0#256, remU a m, 1#256⟩
def eEnd (a m : BitVec 256) : E4 := eRun m 800 (eStart a m)
/-- The number by which 'a' is 1, by 'm', and whether there is one. -/
def invX (a m : BitVec 256) : BitVec 256 := if m.toNat ≤ 1 then 0#256 else if (eEnd a m).r0 = 1#256 then (eEnd a m).t0 else 0#256
def invOk (a m : BitVec 256) : Bool := decide (1 < m.toNat) && decide ((eEnd a m).r0 = 1#256)

/-! ### The document's step is the same -/
theorem addm_nat {a b m : BitVec 256} (h : m.toNat ≠ 0) : (addm a b m).toNat = (a.toNat + b.toNat) % m.toNat := by
  unfold addm
  rw [remD_nat]; unfold remD; rw [if_neg h]
theorem mulm_lt {a b m : BitVec 256} (h : m.toNat ≠ 0) : (mulm a b m).toNat < m.toNat := by
  rw [mulm_nat]; unfold remD; rw [if_neg h]; exact Nat.mod_lt _ (by omega)
theorem minus_addm {x z m : BitVec 256} (hx : x.toNat < m.toNat) (hz : z.toNat < m.toNat) : minusU x z m = addm x (m - z) m := by
  have hm := m.isLt
  apply BitVec.eq_of_toNat_eq
  have e1 : (m - z).toNat = m.toNat - z.toNat := by rw [BitVec.toNat_sub]; omega
  rw [addm_nat (by omega), e1]
  unfold minusU uless
  by_cases h : x.toNat < z.toNat
  · rw [if_pos (by simpa using h), BitVec.toNat_add, BitVec.toNat_sub, Nat.mod_eq_of_lt (show x.toNat + (m.toNat - z.toNat) < m.toNat by omega)]
    have hz2 := z.isLt
    have hx2 := x.isLt
    omega
  · have e2 : (x - z).toNat = x.toNat - z.toNat := by
      rw [BitVec.toNat_sub]
      have hz2 := z.isLt
      have hx2 := x.isLt
      omega
    rw [if_neg (by simpa using h), e2, Nat.mod_eq_sub_mod (by omega), Nat.mod_eq_of_lt (by omega)]
    omega
end Go.Proofs.Ytakmgioeldbkcaa

/- The two ways to an inverse: their loops' laws. -/
namespace Go.Proofs.Ytakmgioeldbkcaa
open Go Go.RowKit
theorem CodeR.sim_out {P : Program} {c : Code} {s t : St} {ex : Ex} (h : CodeR P c s (fun e s' => e = ex ∧ Sim s' t)) : CodeR P c s (fun e s' => e = ex ∧ s' = t) := by
  intro ρ B W a w Q hst hq
  refine h ρ B W a w Q hst ?_
  rintro e s' ⟨rfl, hs⟩ ρ' a' w' hle hst'
  exact hq _ t ⟨rfl, rfl⟩ ρ' a' w' hle (hs ρ' B W a' w' hst')
theorem eInv_t {m : BitVec 256} (hm : 1 < m.toNat) {s : E4} (_h0 : s.t0.toNat < m.toNat) (h1 : s.t1.toNat < m.toNat) : (eStep m s).t0.toNat < m.toNat ∧ (eStep m s).t1.toNat < m.toNat := by
  refine ⟨h1, ?_⟩
  show (addm _ _ _).toNat < _
  rw [addm_nat (by omega)]
  exact Nat.mod_lt _ (by omega)
theorem zero_test (x : BitVec 256) : (!(x == ofLimbs (0 : Int) (0 : Int) (0 : Int) (0 : Int))) = decide (x ≠ 0#256) := by
  rw [limbsZero]
  by_cases h : x = 0#256 <;> simp [h]
theorem SimC.agg2 {a b a' b' : AV} (h1 : SimC a a') (h2 : SimC b b') : SimC (.agg [a, b]) (.agg [a', b']) := by
  intro ρ cs h
  simp only [RC, RCs] at h ⊢
  obtain ⟨c1, c2, e1, ⟨c3, c4, e2, e3, e4⟩, e5⟩ := h
  exact ⟨c1, c2, h1 ρ c1 e1, ⟨c3, c4, h2 ρ c3 e2, e3, e4⟩, e5⟩
/-! ### The program's -/
theorem invSub : subC fi_modu_Inverse.body [0, 0, 1, 1, 1, 1] = some (.loop (loopAt fi_modu_Inverse [0, 0, 1, 1, 1, 1])) := loop_sub' (c := loopAt fi_modu_Inverse [0, 0, 1, 1, 1, 1]) (by kernel_rfl)
theorem inv_loop (a m : BitVec 256) : CodeR Try.prog (.loop (loopAt fi_modu_Inverse [0, 0, 1, 1, 1, 1])) (inv_st0 a m).s (fun e s' => e = .exit 0 ∧ s' = (inv_st a m (eEnd a m).r0 (eEnd a m).t0 (eEnd a m).r1 (eEnd a m).t1).s) := by
  refine CodeR.of_sim (s' := (inv_st a m (eStart a m).r0 (eStart a m).t0 (eStart a m).r1 (eStart a m).t1).s) ?_ ?_
  · refine inv_rule (σ := E4) (fun s => inv_st a m s.r0 s.t0 s.r1 s.t1) (fun s => eRun m 800 s = eEnd a m) (fun s => s.r1.toNat) _ (fun _ => Nat.le_refl 25) ?_ (eStart a m) rfl
    intro s hs
    refine ⟨inv_X, ?_⟩
    rw [inv_body, zero_test]
    refine ⟨rfl, fun hc => ?_, fun hc => ?_⟩
    · have hc : s.r1 ≠ 0#256 := of_decide_eq_true hc
      refine ⟨eStep m s, (eRun_same hc).trans hs, ?_, Sim.refl _⟩
      show (eStep m s).r1.toNat < s.r1.toNat
      rw [eStep_r1 hc]
      exact Nat.mod_lt _ (Nat.pos_of_ne_zero fun e => hc (u_zero.2 e))
    · have hc : s.r1 = 0#256 := Decidable.of_not_not (of_decide_eq_false hc)
      have : s = eEnd a m := by rw [← hs, eRun_zero hc]
      subst this
      exact ⟨rfl, rfl⟩
  · exact Sim.of (SimS.refl _) ⟨⟨rfl, rfl, SimC.refl _⟩, ⟨rfl, rfl, SimC.refl _⟩, ⟨rfl, rfl, SimC.refl _⟩, trivial, trivial, trivial, trivial, trivial, trivial, trivial, trivial, trivial, trivial, trivial, ⟨rfl, rfl, SimC.refl _⟩, ⟨rfl, rfl, SimC.refl _⟩, trivial, trivial, trivial, trivial, trivial, trivial, trivial,
      ⟨rfl, rfl, SimC.agg2 (SimC.refl _) (SimC.u4 (show [(0 : Int), 0, 0, 0] = [limb (0#256) 0, limb (0#256) 1, limb (0#256) 2, limb (0#256) 3] by decide))⟩, ⟨rfl, rfl, SimC.refl _⟩, trivial⟩
noncomputable def invLC (a m : BitVec 256) : LCT Try.prog := LCT.one fi_modu_Inverse [0, 0, 1, 1, 1, 1] _ _ (inv_st a m (eEnd a m).r0 (eEnd a m).t0 (eEnd a m).r1 (eEnd a m).t1) invSub (inv_loop a m)
noncomputable def invX1 (a m : BitVec 256) : EnvT Try.prog := { inv_X with lcs := [invLC a m] }
/-! ### The document's -/
theorem rinvSub : subC fi_truceref03_Inverse.body [0, 1, 0, 1, 1, 1, 1, 1, 1, 1] = some (.loop (loopAt fi_truceref03_Inverse [0, 1, 0, 1, 1, 1, 1, 1, 1, 1])) := loop_sub' (c := loopAt fi_truceref03_Inverse [0, 1, 0, 1, 1, 1, 1, 1, 1, 1]) (by kernel_rfl)
noncomputable def rinv_stF (a : BitVec 256) (m : BitVec 256) (v2 : BitVec 256) (v3 : BitVec 256) (v4 : BitVec 256) (v5 : BitVec 256) : KS := ⟨⟨pat' [(3, (.ptr 1 [])), (4, (.ptr 2 [])), (5, (.bool false)), (6, (.ptr 5 [])), (8, (.ptr 18 [])), (9, (.ptr 22 [])), (10, (.ptr 25 [])), (11, (.ptr 28 []))] 0 62, [(some ⟨24, (.u a), true⟩), (some ⟨24, (.u m), true⟩), (some ⟨24, (.ints .u64 4 [(0 : Int), (0 : Int), (0 : Int), (0 : Int)]), true⟩), none, none, (some ⟨24, (.ints .u64 4 [(1 : Int), (0 : Int), (0 : Int), (0 : Int)]), true⟩), none, none, none, none, none, none, none, none, none, none, none, (some ⟨24, (.u (a / m)), true⟩), (some ⟨24, (.u v2), true⟩), none, none, none, (some ⟨24, (.u v3), true⟩), none, none, (some ⟨24, (.u v4), true⟩), none, none, (some ⟨24, (.u v5), true⟩)], 29⟩, kpat [3, 4, 5, 6, 8, 9, 10, 11] 0 62, [false, false, true, false, false, false, false, false, false, false, false, false, false, false, false, false, false, false, false, false, false, false, false, false, false, false, false, false, false]⟩
theorem rinv_out (a m : BitVec 256) (i : Int) (r old t before : BitVec 256) : Sim (rinv_st a m i r old t before).s (rinv_stF a m r old t before).s := by
  intro ρ B W ac w hst
  have h : fitSt (rinv_stF a m r old t before).s (rinv_st a m i r old t before).s = some [true, a == a, m == m, true, true, (a / m) == (a / m), r == r, old == old, t == t, before == before] := by kernel_rfl
  exact fitSt_sound h (by simp) hst
theorem rinv_loop (a m : BitVec 256) (hm : 1 < m.toNat) : CodeR Try.prog (.loop (loopAt fi_truceref03_Inverse [0, 1, 0, 1, 1, 1, 1, 1, 1, 1])) (rinv_st0 a m).s (fun e s' => e = .exit 0 ∧ s' = (rinv_stF a m (eEnd a m).r1 (eEnd a m).r0 (eEnd a m).t1 (eEnd a m).t0).s) := by
  refine CodeR.of_sim (s' := (rinv_st a m 0 (eStart a m).r1 (eStart a m).r0 (eStart a m).t1 (eStart a m).t0).s) (CodeR.sim_out ?_) ?_
  · refine rinv_rule (σ := Nat × E4) (fun s => rinv_st a m (s.1 : Nat) s.2.r1 s.2.r0 s.2.t1 s.2.t0) (fun s => s.1 ≤ 800 ∧ eRun m (800 - s.1) s.2 = eEnd a m ∧ s.2.t0.toNat < m.toNat ∧ s.2.t1.toNat < m.toNat) (fun s => 800 - s.1) _ (fun _ => Nat.le_refl 29) ?_ (0, eStart a m) ?_
    · rintro ⟨i, s⟩ ⟨hi, hs, h0, h1⟩
      refine ⟨rinv_X, ?_⟩
      rw [rinv_body, zero_test]
      dsimp only at hi hs h0 h1 ⊢
      refine ⟨fun hc => ⟨rfl, fun hz => ?_, fun hz => ?_⟩, fun hc => ?_⟩
      · have hlt : i < 800 := by simp at hc; omega
        have hz : s.r1 ≠ 0#256 := of_decide_eq_true hz
        obtain ⟨g0, g1⟩ := eInv_t hm h0 h1
        refine ⟨(i + 1, eStep m s), ⟨by dsimp only; omega, ?_, g0, g1⟩, by dsimp only; omega, Sim.of_eq ?_⟩
        · dsimp only
          have e : 800 - i = 800 - (i + 1) + 1 := by omega
          rw [e, eRun_next hz] at hs
          exact hs
        · dsimp only
          rw [wrapi_one (by omega), minus_addm h0 (mulm_lt (by omega))]
          rfl
      · have hz : s.r1 = 0#256 := Decidable.of_not_not (of_decide_eq_false hz)
        have : s = eEnd a m := by rw [← hs, eRun_zero hz]
        subst this
        exact ⟨rfl, rinv_out _ _ _ _ _ _ _⟩
      · have hlt : i = 800 := by simp at hc; omega
        subst hlt
        have : s = eEnd a m := by rw [← hs]; rfl
        subst this
        exact ⟨rfl, rinv_out _ _ _ _ _ _ _⟩
    · exact ⟨by dsimp only; omega, rfl, by show 0 < _; omega, hm⟩
  · exact Sim.of (SimS.refl _) ⟨⟨rfl, rfl, SimC.refl _⟩, ⟨rfl, rfl, SimC.refl _⟩, ⟨rfl, rfl, SimC.refl _⟩, trivial, trivial, ⟨rfl, rfl, SimC.refl _⟩, trivial, trivial, trivial, trivial, trivial, trivial, trivial, trivial, trivial, trivial, trivial, ⟨rfl, rfl, SimC.refl _⟩, ⟨rfl, rfl, SimC.refl _⟩, trivial, trivial, trivial,
      ⟨rfl, rfl, SimC.refl _⟩, trivial, trivial, ⟨rfl, rfl, (SimC.u4 (show [(1 : Int), 0, 0, 0] = [limb (1#256) 0, limb (1#256) 1, limb (1#256) 2, limb (1#256) 3] by decide))⟩, trivial, trivial, ⟨rfl, rfl, (SimC.u4 (show [(0 : Int), 0, 0, 0] = [limb (0#256) 0, limb (0#256) 1, limb (0#256) 2, limb (0#256) 3] by decide))⟩, trivial⟩
noncomputable def rinvLC (a m : BitVec 256) (hm : 1 < m.toNat) : LCT Try.prog := LCT.one fi_truceref03_Inverse [0, 1, 0, 1, 1, 1, 1, 1, 1, 1] _ _ (rinv_stF a m (eEnd a m).r1 (eEnd a m).r0 (eEnd a m).t1 (eEnd a m).t0) rinvSub (rinv_loop a m hm)
noncomputable def rinvX1 (a m : BitVec 256) (hm : 1 < m.toNat) : EnvT Try.prog := { rinv_X with lcs := [rinvLC a m hm] }
noncomputable def rinvX0 : EnvT Try.prog := { rinv_X with lcs := [LCT.bad 86 [0, 1, 0, 1, 1, 1, 1, 1, 1, 1]] }
end Go.Proofs.Ytakmgioeldbkcaa

/- Contracts: the two ways to an inverse. -/
namespace Go.Proofs.Ytakmgioeldbkcaa
open Go Go.RowKit

theorem inv_tree (a m : BitVec 256) : (callT (invX1 a m) (execT (invX1 a m) 100) 82 [.u a, .u m] [] [] 0 []).map CR.v =
    (.ite (decide ((ucmp m (BitVec.ofNat 256 1)) ≤ (0 : Int)))
     (.leaf (.tup [(.ints .u64 4 [(0 : Int), (0 : Int), (0 : Int), (0 : Int)]), (.bool false)]))
     (.need true
     (.need (a == a)
     (.need (m == m)
     (.need true
     (.need ((a / m) == (a / m))
     (.need ((remU a m) == (remU a m))
     (.need (m == m)
     (.need true
     (.need ((remU a m) == (remU a m))
     (.need true
     (.need true
     (.ite (!((E4.r0 (eEnd a m)) == (BitVec.ofNat 256 1)))
      (.leaf (.tup [(.ints .u64 4 [(0 : Int), (0 : Int), (0 : Int), (0 : Int)]), (.bool false)]))
      (.leaf (.tup [(.u (E4.t0 (eEnd a m))), (.bool true)]))))))))))))))) := by kernel_rfl

theorem rinv_tree (a m : BitVec 256) (hm : 1 < m.toNat) : (callT (rinvX1 a m hm) (execT (rinvX1 a m hm) 100) 86 [.u a, .u m] [] [] 0 []).map CR.v =
    (.need true
    (.ite (decide ((ucmp m (ofLimbs (1 : Int) (0 : Int) (0 : Int) (0 : Int))) ≤ (0 : Int)))
     (.leaf (.tup [(.ints .u64 4 [(0 : Int), (0 : Int), (0 : Int), (0 : Int)]), (.bool false)]))
     (.need true
     (.need true
     (.need (a == a)
     (.need (m == m)
     (.need true
     (.need true
     (.need ((a / m) == (a / m))
     (.need ((remU a m) == (remU a m))
     (.need (m == m)
     (.need true
     (.need true
     (.need true
     (.need true
     (.ite (!((E4.r0 (eEnd a m)) == (ofLimbs (1 : Int) (0 : Int) (0 : Int) (0 : Int))))
      (.leaf (.tup [(.ints .u64 4 [(0 : Int), (0 : Int), (0 : Int), (0 : Int)]), (.bool false)]))
      (.leaf (.tup [(.u (E4.t0 (eEnd a m))), (.bool true)])))))))))))))))))) := by kernel_rfl

theorem rinv0_tree (a m : BitVec 256) : (callT (rinvX0) (execT (rinvX0) 100) 86 [.u a, .u m] [] [] 0 []).map CR.v =
    (.need true
    (.ite (decide ((ucmp m (ofLimbs (1 : Int) (0 : Int) (0 : Int) (0 : Int))) ≤ (0 : Int)))
     (.leaf (.tup [(.ints .u64 4 [(0 : Int), (0 : Int), (0 : Int), (0 : Int)]), (.bool false)]))
     .bad)) := by kernel_rfl

theorem ucmp_le0 {a b : BitVec 256} : (decide (ucmp a b ≤ (0 : Int))) = decide (a.toNat ≤ b.toNat) := by
  rcases Nat.lt_trichotomy a.toNat b.toNat with h | h | h
  · rw [ucmp_lt h]; simp; omega
  · have : a = b := BitVec.eq_of_toNat_eq h
    subst this
    simp [ucmp]
  · rw [ucmp_gt h]; simp; omega
theorem zeros4 : SameV (.ints .u64 4 [(0 : Int), (0 : Int), (0 : Int), (0 : Int)]) (.u 0#256) := SameV.u4 (by decide)
theorem inv_small {a m : BitVec 256} (h : m.toNat ≤ 1) : invX a m = 0#256 ∧ invOk a m = false := by
  unfold invX invOk
  rw [if_pos h]
  refine ⟨rfl, ?_⟩
  have : ¬ 1 < m.toNat := by omega
  simp [this]
theorem inv_no {a m : BitVec 256} (h : 1 < m.toNat) (hr : (eEnd a m).r0 ≠ 1#256) : invX a m = 0#256 ∧ invOk a m = false := by
  unfold invX invOk
  rw [if_neg (by omega), if_neg hr]
  exact ⟨rfl, by simp [hr]⟩
theorem inv_yes {a m : BitVec 256} (h : 1 < m.toNat) (hr : (eEnd a m).r0 = 1#256) : invX a m = (eEnd a m).t0 ∧ invOk a m = true := by
  unfold invX invOk
  rw [if_neg (by omega), if_pos hr]
  exact ⟨rfl, by simp [hr, h]⟩
theorem minv_ok (a m : BitVec 256) : Pure Try.prog 82 [.u a, .u m] (.tup [.u (invX a m), .bool (invOk a m)]) := by
  refine Pure.by_tree mixed _ 100 _ _ (inv_tree a m) ?_
  rw [ucmp_le0, show (BitVec.ofNat 256 1).toNat = 1 from rfl]
  refine ⟨fun hc => ?_, fun hc => ?_⟩
  · obtain ⟨e1, e2⟩ := inv_small (a := a) (of_decide_eq_true hc)
    rw [e1, e2]; exact SameR.tup2 zeros4 (SameV.bool rfl)
  · have hm : 1 < m.toNat := by have := of_decide_eq_false hc; omega
    simp only [T.holds, beq_self_eq_true, true_and]
    refine ⟨fun hr => ?_, fun hr => ?_⟩
    · obtain ⟨e1, e2⟩ := inv_no hm (a := a) (by simpa using hr)
      rw [e1, e2]; exact SameR.tup2 zeros4 (SameV.bool rfl)
    · obtain ⟨e1, e2⟩ := inv_yes hm (a := a) (by simpa using hr)
      rw [e1, e2]; exact SameR.tup2 (SameV.u rfl) (SameV.bool rfl)
theorem rinv_ok (a m : BitVec 256) : Pure Try.prog 86 [.u a, .u m] (.tup [.u (invX a m), .bool (invOk a m)]) := by
  by_cases hm : m.toNat ≤ 1
  · refine Pure.by_tree mixed _ 100 _ _ (rinv0_tree a m) ?_
    rw [ucmp_le0, limbsOne, show (1#256 : BitVec 256).toNat = 1 from rfl]
    refine ⟨rfl, fun hc => ?_, fun hc => absurd hm (of_decide_eq_false hc)⟩
    obtain ⟨e1, e2⟩ := inv_small (a := a) hm
    rw [e1, e2]; exact SameR.tup2 zeros4 (SameV.bool rfl)
  · have hm : 1 < m.toNat := by omega
    refine Pure.by_tree mixed _ 100 _ _ (rinv_tree a m hm) ?_
    rw [ucmp_le0, limbsOne, show (1#256 : BitVec 256).toNat = 1 from rfl]
    refine ⟨rfl, fun hc => absurd (of_decide_eq_true hc) (by omega), fun hc => ?_⟩
    simp only [T.holds, beq_self_eq_true, true_and]
    refine ⟨fun hr => ?_, fun hr => ?_⟩
    · obtain ⟨e1, e2⟩ := inv_no hm (a := a) (by simpa using hr)
      rw [e1, e2]; exact SameR.tup2 zeros4 (SameV.bool rfl)
    · obtain ⟨e1, e2⟩ := inv_yes hm (a := a) (by simpa using hr)
      rw [e1, e2]; exact SameR.tup2 (SameV.u rfl) (SameV.bool rfl)
noncomputable def c_inv : Ctr Try.prog := Ctr.u2 82 (fun a m => .tup [.u (invX a m), .bool (invOk a m)]) minv_ok
noncomputable def c_rinv : Ctr Try.prog := Ctr.u2 86 (fun a m => .tup [.u (invX a m), .bool (invOk a m)]) rinv_ok
noncomputable def modX : EnvT Try.prog := { cs := [c_inv, c_rinv, c_exp, c_rexp, c_pow, c_rpow, c_addMod, c_mulMod, c_raddMod, c_rmulMod, c_ref_Wide, c_ref_Mul, c_rrest, c_rdiv, c_ref_Cmp], fis := [fi_trucelaw03_awake, fi_trucelaw03_ModuTells, fi_trucelaw03_ModuInverse, fi_trucelaw03_ModuPowers, fi_trucelaw03_ModuSpreads, fi_trucelaw03_ModuTwice] }
end Go.Proofs.Ytakmgioeldbkcaa

/- Contracts: chapter 03's examples. -/
namespace Go.Proofs.Ytakmgioeldbkcaa
open Go Go.RowKit

theorem awake03_tree  : (callT (modX) (execT (modX) 100) 83 [] [] [] 0 []).map CR.v =
    (.need true
    (.need true
    (.need true
    (.need true
    (.need true
    (.need true
    (.need true
    (.need true
    (.ite true
     (.need true
     (.need true
     (.need true
     (.ite true
      (.need true
      (.ite true
       (.ite true
        (.leaf (.bool true))
        (.leaf (.bool false)))
       (.leaf (.bool false))))
      (.leaf (.bool false))))))
     (.leaf (.bool false))))))))))) := by kernel_rfl

theorem awake03_ok : Pure Try.prog 83 [] (.bool true) := Pure.by_tree mixed _ 100 _ _ awake03_tree (by
  simp only [T.holds, true_and, forall_const, reduceCtorEq, false_implies, and_true, implies_true]
  exact (SameV.bool rfl).r)
noncomputable def c_awake03 : Ctr Try.prog := Ctr.z0 83 (.bool true) awake03_ok
noncomputable def lawX03 : EnvT Try.prog := { modX with cs := c_awake03 :: modX.cs }
end Go.Proofs.Ytakmgioeldbkcaa

/- Sums, products, powers, inverses by a modulus: plain laws. -/
namespace Go.Proofs.Ytakmgioeldbkcaa
open Go Go.RowKit
theorem addm_rem (a b m : BitVec 256) : (addm a b m).toNat = remD (a.toNat + b.toNat) m.toNat := by unfold addm; rw [remD_nat]
theorem remD_add (x y m : Nat) : remD (remD x m + remD y m) m = remD (x + y) m := by
  unfold remD
  by_cases h : m = 0
  · simp [h]
  · simp only [h, if_false]; rw [← Nat.add_mod]
theorem remD_mul_r (x y m : Nat) : remD (x * remD y m) m = remD (x * y) m := by rw [Nat.mul_comm, remD_mul_l, Nat.mul_comm]
theorem spreads (a b c m : BitVec 256) : mulm a (addm b c m) m = addm (mulm a b m) (mulm a c m) m := by
  apply BitVec.eq_of_toNat_eq
  rw [mulm_nat, addm_rem, addm_rem, mulm_nat, mulm_nat, remD_add, remD_mul_r, Nat.mul_add]
theorem mulm_comm (a b m : BitVec 256) : mulm a b m = mulm b a m := by unfold mulm; rw [Nat.mul_comm]
theorem addm_comm (a b m : BitVec 256) : addm a b m = addm b a m := by unfold addm; rw [Nat.add_comm]
theorem mulm_lt' {a b m : BitVec 256} (h : m ≠ 0#256) : (mulm a b m).toNat < m.toNat := mulm_lt fun e => h (u_zero.2 e)
theorem mulm_zero {a b m : BitVec 256} (h : m = 0#256) : mulm a b m = m := by
  subst h
  apply BitVec.eq_of_toNat_eq
  rw [mulm_nat]; rfl
theorem oneLimb {n : Nat} (h : n < 18446744073709551616) : (ofLimbs ((n : Nat) : Int) 0 0 0).toNat = n := by
  unfold ofLimbs
  simp only [BitVec.toNat_ofNat, toNat_c]
  omega
theorem expU_add {a x y z : BitVec 256} (h : z.toNat = x.toNat + y.toNat) : expU a z = expU a x * expU a y := by
  apply BitVec.eq_of_toNat_eq
  unfold expU
  rw [BitVec.toNat_mul, BitVec.toNat_ofNat, BitVec.toNat_ofNat, BitVec.toNat_ofNat, h, Nat.pow_add, Nat.mul_mod]
theorem powU_add {a x y z m : BitVec 256} (h : z.toNat = x.toNat + y.toNat) : powU a z m = restU (wideHi (powU a x m) (powU a y m)) (powU a x m * powU a y m) m := by
  rw [mulm_eq]
  apply BitVec.eq_of_toNat_eq
  rw [powU_nat, mulm_nat, powU_nat, powU_nat, remD_mul, h, Nat.pow_add]
theorem expU_mul {a x y z : BitVec 256} (h : z.toNat = x.toNat * y.toNat) : expU (expU a x) y = expU a z := by
  apply BitVec.eq_of_toNat_eq
  unfold expU
  rw [BitVec.toNat_ofNat, BitVec.toNat_ofNat, BitVec.toNat_ofNat, h, Nat.pow_mul, ← Nat.pow_mod]
theorem powU_mul {a x y z m : BitVec 256} (h : z.toNat = x.toNat * y.toNat) : powU (powU a x m) y m = powU a z m := by
  apply BitVec.eq_of_toNat_eq
  rw [powU_nat, powU_nat, powU_nat, h, Nat.pow_mul]
  unfold remD
  by_cases hm : m.toNat = 0
  · simp [hm]
  · simp only [hm, if_false]; rw [← Nat.pow_mod]
theorem expU_zero (a : BitVec 256) : expU a 0#256 = 1#256 := by
  apply BitVec.eq_of_toNat_eq
  unfold expU
  rw [show (0#256 : BitVec 256).toNat = 0 from rfl, Nat.pow_zero]
theorem expU_one (a : BitVec 256) : expU a 1#256 = a := by
  apply BitVec.eq_of_toNat_eq
  unfold expU
  rw [show (1#256 : BitVec 256).toNat = 1 from rfl, Nat.pow_one, BitVec.toNat_ofNat, Nat.mod_eq_of_lt a.isLt]
theorem powU_zero (a m : BitVec 256) : powU a 0#256 m = remU 1#256 m := by
  unfold powU remU
  rw [show (0#256 : BitVec 256).toNat = 0 from rfl, Nat.pow_zero]; rfl
theorem powU_one (a m : BitVec 256) : powU a 1#256 m = remU a m := by
  unfold powU remU
  rw [show (1#256 : BitVec 256).toNat = 1 from rfl, Nat.pow_one]
/-! ### The inverse -/
theorem eRun_ind {m : BitVec 256} {p : E4 → Prop} (hs : ∀ s, s.r1 ≠ 0#256 → p s → p (eStep m s)) : ∀ (k : Nat) (s : E4), p s → p (eRun m k s)
  | 0, _, h => h
  | k + 1, s, h => by
    by_cases hz : s.r1 = 0#256
    · rw [eRun_zero hz]; exact h
    · rw [eRun_next hz]; exact eRun_ind hs k _ (hs s hz h)
/-- 't' times 'a' is 'r', by 'm'. -/
def Tells (a m : Nat) (t r : Nat) : Prop := ∃ k : Int, (t : Int) * (a : Int) - (r : Int) = (m : Int) * k
theorem tells_next {a m t0 r0 t1 r1 q : Nat} (h0 : Tells a m t0 r0) (h1 : Tells a m t1 r1) (hm : 0 < m) (hq : q * r1 ≤ r0) : Tells a m ((t0 + (m - q * t1 % m)) % m) (r0 - q * r1) := by
  obtain ⟨k0, e0⟩ := h0
  obtain ⟨k1, e1⟩ := h1
  have hz := Nat.mod_add_div (q * t1) m
  have hy := Nat.mod_add_div (t0 + (m - q * t1 % m)) m
  have hl : q * t1 % m < m := Nat.mod_lt _ hm
  obtain ⟨z, ez⟩ : ∃ z, z = q * t1 % m := ⟨_, rfl⟩
  obtain ⟨d, ed⟩ : ∃ d, d = q * t1 / m := ⟨_, rfl⟩
  rw [← ez, ← ed] at hz
  rw [← ez] at hl hy ⊢
  obtain ⟨y, ey⟩ : ∃ y, y = (t0 + (m - z)) % m := ⟨_, rfl⟩
  obtain ⟨c, ec⟩ : ∃ c, c = (t0 + (m - z)) / m := ⟨_, rfl⟩
  rw [← ey, ← ec] at hy
  rw [← ey]
  have hy' : (y : Int) + (m : Int) * (c : Int) = (t0 : Int) + ((m : Int) - (z : Int)) := by
    have h3 : ((y + m * c : Nat) : Int) = ((t0 + (m - z) : Nat) : Int) := by rw [hy]
    have h4 : ((m - z : Nat) : Int) = (m : Int) - (z : Int) := by omega
    simpa [h4] using h3
  have hz' : (z : Int) + (m : Int) * (d : Int) = (q : Int) * (t1 : Int) := by
    have h3 : ((z + m * d : Nat) : Int) = ((q * t1 : Nat) : Int) := by rw [hz]
    simpa using h3
  have hr : ((r0 - q * r1 : Nat) : Int) = (r0 : Int) - (q : Int) * (r1 : Int) := by
    have := Int.natCast_mul q r1
    omega
  refine ⟨k0 - (q : Int) * k1 + (a : Int) + (d : Int) * (a : Int) - (c : Int) * (a : Int), ?_⟩
  rw [hr]
  grind
theorem rem_sub (x y : Nat) : x % y = x - x / y * y := by
  have := Nat.mod_add_div x y
  rw [Nat.mul_comm] at this
  omega
structure EInv (a m : BitVec 256) (s : E4) : Prop where
  h0 : Tells a.toNat m.toNat s.t0.toNat s.r0.toNat
  h1 : Tells a.toNat m.toNat s.t1.toNat s.r1.toNat
  l0 : s.t0.toNat < m.toNat
  l1 : s.t1.toNat < m.toNat
  g : Nat.gcd s.r0.toNat s.r1.toNat = Nat.gcd m.toNat a.toNat
theorem eInv_step {a m : BitVec 256} (hm : 1 < m.toNat) {s : E4} (hz : s.r1 ≠ 0#256) (h : EInv a m s) : EInv a m (eStep m s) := by
  have hz' : s.r1.toNat ≠ 0 := fun e => hz (u_zero.2 e)
  have e1 := eStep_r1 (m := m) hz
  obtain ⟨l0, l1⟩ := eInv_t hm h.l0 h.l1
  have et : (eStep m s).t1.toNat = (s.t0.toNat + (m.toNat - s.r0.toNat / s.r1.toNat * s.t1.toNat % m.toNat)) % m.toNat := by
    show (addm s.t0 (m - mulm (s.r0 / s.r1) s.t1 m) m).toNat = _
    have hl := mulm_lt (a := s.r0 / s.r1) (b := s.t1) (m := m) (by omega)
    have hm2 := m.isLt
    have e2 : (m - mulm (s.r0 / s.r1) s.t1 m).toNat = m.toNat - (mulm (s.r0 / s.r1) s.t1 m).toNat := by rw [BitVec.toNat_sub]; omega
    rw [addm_nat (by omega), e2, mulm_nat, BitVec.toNat_udiv]
    unfold remD
    rw [if_neg (by omega)]
  refine ⟨h.h1, ?_, l0, l1, ?_⟩
  · rw [et, e1, rem_sub s.r0.toNat s.r1.toNat]
    exact tells_next h.h0 h.h1 (by omega) (Nat.div_mul_le_self _ _)
  · rw [e1, ← h.g, Nat.gcd_comm s.r0.toNat]
    show Nat.gcd s.r1.toNat _ = _
    rw [Nat.gcd_rec s.r1.toNat s.r0.toNat, Nat.gcd_comm]
theorem eInv_end {a m : BitVec 256} (hm : 1 < m.toNat) : EInv a m (eEnd a m) := by
  refine eRun_ind (fun s hz h => eInv_step hm hz h) 800 _ ⟨⟨-1, ?_⟩, ?_, ?_, hm, ?_⟩
  · show ((0#256 : BitVec 256).toNat : Int) * _ - (m.toNat : Int) = _
    rw [show (0#256 : BitVec 256).toNat = 0 from rfl]; simp
  · show Tells a.toNat m.toNat (1#256 : BitVec 256).toNat (remU a m).toNat
    rw [show (1#256 : BitVec 256).toNat = 1 from rfl, remU_nat]
    unfold remD
    rw [if_neg (by omega)]
    have := Nat.mod_add_div a.toNat m.toNat
    refine ⟨(a.toNat / m.toNat : Nat), ?_⟩
    have h2 : ((a.toNat % m.toNat + m.toNat * (a.toNat / m.toNat) : Nat) : Int) = (a.toNat : Int) := by rw [this]
    have h3 := Int.natCast_mul m.toNat (a.toNat / m.toNat)
    omega
  · show (0#256 : BitVec 256).toNat < m.toNat
    rw [show (0#256 : BitVec 256).toNat = 0 from rfl]; omega
  · show Nat.gcd m.toNat (remU a m).toNat = _
    rw [remU_nat]
    unfold remD
    rw [if_neg (by omega), Nat.gcd_comm m.toNat a.toNat, Nat.gcd_comm m.toNat]
    exact (Nat.gcd_rec m.toNat a.toNat).symm.trans (Nat.gcd_comm _ _)
theorem eEnd_gcd {a m : BitVec 256} (hm : 1 < m.toNat) : (eEnd a m).r0.toNat = Nat.gcd m.toNat a.toNat := by
  have h := (eInv_end (a := a) hm).g
  have hz : (eEnd a m).r1 = 0#256 := eRun_done m _
  rw [hz] at h
  simpa using h
theorem tells_one {a m t : Nat} (hm : 1 < m) (h : Tells a m t 1) : t * a % m = 1 := by
  obtain ⟨k, e⟩ := h
  have e2 : ((t * a : Nat) : Int) = 1 + (m : Int) * k := by
    have := Int.natCast_mul t a
    omega
  have e3 : ((t * a % m : Nat) : Int) = 1 := by
    rw [Int.natCast_emod, e2, Int.add_mul_emod_self_left]
    exact Int.emod_eq_of_lt (by omega) (by omega)
  omega
theorem inv_law {a m : BitVec 256} (h : invOk a m = true) : 1 < m.toNat ∧ (invX a m).toNat * a.toNat % m.toNat = 1 ∧ (invX a m).toNat < m.toNat := by
  unfold invOk at h
  simp only [Bool.and_eq_true, decide_eq_true_eq] at h
  obtain ⟨hm, hr⟩ := h
  have he := eInv_end (a := a) hm
  have h0 := he.h0
  rw [hr] at h0
  rw [(inv_yes hm hr).1]
  exact ⟨hm, tells_one hm h0, he.l0⟩
theorem coprime_inv {a x m : Nat} (hm : 1 < m) (h : x * a % m = 1) : Nat.gcd m x = 1 := by
  have hd := Nat.gcd_dvd m x
  have h1 : Nat.gcd m x ∣ x * a % m := (Nat.dvd_mod_iff hd.1).2 (Nat.dvd_trans hd.2 (Nat.dvd_mul_right _ _))
  rw [h] at h1
  exact Nat.dvd_one.1 h1
theorem inv_back {a m : BitVec 256} (h : invOk a m = true) : invOk (invX a m) m = true ∧ invX (invX a m) m = remU a m := by
  obtain ⟨hm, h1, h2⟩ := inv_law h
  have hg := coprime_inv hm h1
  have hr : (eEnd (invX a m) m).r0 = 1#256 := by
    apply BitVec.eq_of_toNat_eq
    rw [eEnd_gcd hm, hg]; rfl
  have ho : invOk (invX a m) m = true := (inv_yes hm hr).2
  refine ⟨ho, ?_⟩
  obtain ⟨_, h3, h4⟩ := inv_law ho
  apply BitVec.eq_of_toNat_eq
  rw [remU_nat]
  unfold remD
  rw [if_neg (by omega)]
  generalize (invX (invX a m) m).toNat = y at *
  generalize (invX a m).toNat = x at *
  have e1 : y % m.toNat = (y * (x * a.toNat)) % m.toNat := by
    rw [Nat.mul_mod, h1, Nat.mul_one, Nat.mod_mod]
  have e2 : (y * (x * a.toNat)) % m.toNat = a.toNat % m.toNat := by
    rw [← Nat.mul_assoc, Nat.mul_mod, h3, Nat.one_mul, Nat.mod_mod]
  rw [← Nat.mod_eq_of_lt h4, e1, e2]
end Go.Proofs.Ytakmgioeldbkcaa

