/- Contracts: the common forms. -/
import Derived.Test.YtakmgioeldbkcaaL1
namespace Go.Proofs.Ytakmgioeldbkcaa
open Go Go.RowKit

section
variable {P : Program}

def SameV (v v' : AV) : Prop := v.noTup = true ∧ v'.noTup = true ∧ ∀ ρ x, RV1 ρ v x → RV1 ρ0 v' x

theorem SameV.int {k : IntKind} {n m : Int} (h : n = m) : SameV (.int k n) (.int k m) := ⟨rfl, rfl, fun ρ x hx => by subst h; simpa only [RV1, RC] using hx⟩
theorem SameV.bool {b c : Bool} (h : b = c) : SameV (.bool b) (.bool c) := ⟨rfl, rfl, fun ρ x hx => by subst h; simpa only [RV1, RC] using hx⟩
theorem SameV.str {s t : ByteArray} (h : s = t) : SameV (.str s) (.str t) := ⟨rfl, rfl, fun ρ x hx => by subst h; simpa only [RV1, RC] using hx⟩
theorem SameV.u {x y : BitVec 256} (h : x = y) : SameV (.u x) (.u y) := ⟨rfl, rfl, fun ρ v hx => by subst h; simpa only [RV1] using hx⟩
theorem SameV.u4 {l : List Int} {y : BitVec 256} (h : l = [limb y 0, limb y 1, limb y 2, limb y 3]) : SameV (.ints .u64 4 l) (.u y) :=
  ⟨rfl, rfl, fun ρ x hx => by simp only [RV1] at hx ⊢; subst h; exact hx.2⟩
theorem SameV.ints {k : IntKind} {n : Nat} {l m : List Int} (h : l = m) : SameV (.ints k n l) (.ints k n m) := ⟨rfl, rfl, fun ρ x hx => by subst h; simpa only [RV1] using hx⟩

/-- What a run gives, said otherwise. -/
def SameR (v v' : AV) : Prop := ∀ ρ x, RV ρ v x → RV ρ0 v' x
theorem SameV.r {v v' : AV} (h : SameV v v') : SameR v v' := fun ρ x hx => RV_of_RV1 (h.2.2 ρ x (RV1_of_RV hx h.1))
theorem SameR.tup2 {a b a' b' : AV} (h1 : SameV a a') (h2 : SameV b b') : SameR (.tup [a, b]) (.tup [a', b']) := by
  intro ρ x hx
  simp only [RV, RV1s] at hx ⊢
  obtain ⟨xs, ⟨y, ys, p1, ⟨z, zs, p2, rfl, rfl⟩, rfl⟩, rfl⟩ := hx
  exact ⟨_, ⟨y, _, h1.2.2 ρ y p1, ⟨z, _, h2.2.2 ρ z p2, rfl, rfl⟩, rfl⟩, rfl⟩
theorem SameR.tup3 {a b c a' b' c' : AV} (h1 : SameV a a') (h2 : SameV b b') (h3 : SameV c c') : SameR (.tup [a, b, c]) (.tup [a', b', c']) := by
  intro ρ x hx
  simp only [RV, RV1s] at hx ⊢
  obtain ⟨xs, ⟨y, ys, p1, ⟨z, zs, p2, ⟨t, ts, p3, rfl, rfl⟩, rfl⟩, rfl⟩, rfl⟩ := hx
  exact ⟨_, ⟨y, _, h1.2.2 ρ y p1, ⟨z, _, h2.2.2 ρ z p2, ⟨t, _, h3.2.2 ρ t p3, rfl, rfl⟩, rfl⟩, rfl⟩, rfl⟩

theorem Pure.by_run (hm : P.follows .mixedOrders = true) (X : EnvX P) (n f : Nat) (args : List AV) {ob : List Bool} {v v' : AV} (h : (callX X (exec X n) f args [] 0).map (fun r => (r.1, r.2.1)) = some (ob, v)) (hob : ∀ b ∈ ob, b = true)
    (hv : SameR v v') : Pure P f args v' := by
  intro xs w hx
  cases hc : callX X (exec X n) f args [] 0 with
  | none => simp [hc] at h
  | some r =>
    obtain ⟨ob', u, H', nk'⟩ := r
    simp [hc] at h; obtain ⟨rfl, rfl⟩ := h
    refine (Calls.of_exec hm X n f 0 args [] H' _ _ nk' hc hob (Rep.start w) hx).mono ?_
    rintro x w' ⟨ρ', _, h2, h3⟩
    exact ⟨hv ρ' x h2, h3.below⟩

def Ctr.u1 (f : Nat) (F : BitVec 256 → AV) (ok : ∀ a, Pure P f [.u a] (F a)) : Ctr P :=
  Ctr.of f (fun | [.u a] => some ([], F a) | _ => none) (by
    intro args ob v h _
    split at h <;> simp at h
    obtain ⟨_, rfl⟩ := h
    exact ok _)

def Ctr.u2 (f : Nat) (F : BitVec 256 → BitVec 256 → AV) (ok : ∀ a b, Pure P f [.u a, .u b] (F a b)) : Ctr P :=
  Ctr.of f (fun | [.u a, .u b] => some ([], F a b) | _ => none) (by
    intro args ob v h _
    split at h <;> simp at h
    obtain ⟨_, rfl⟩ := h
    exact ok _ _)

def Ctr.u3 (f : Nat) (F : BitVec 256 → BitVec 256 → BitVec 256 → AV) (ok : ∀ a b c, Pure P f [.u a, .u b, .u c] (F a b c)) : Ctr P :=
  Ctr.of f (fun | [.u a, .u b, .u c] => some ([], F a b c) | _ => none) (by
    intro args ob v h _
    split at h <;> simp at h
    obtain ⟨_, rfl⟩ := h
    exact ok _ _ _)

/-- A number of 256 bits, and one of 64. -/
def Ctr.un (f : Nat) (F : BitVec 256 → Nat → AV) (ok : ∀ (a : BitVec 256) (n : Nat), n < 18446744073709551616 → Pure P f [.u a, .int .u64 n] (F a n)) : Ctr P :=
  Ctr.of f (fun | [.u a, .int .u64 n] => some ([inR n], F a n.toNat) | _ => none) (by
    intro args ob v h hob
    split at h <;> simp at h
    obtain ⟨rfl, rfl⟩ := h
    rename_i a n
    have := hob (inR n) (by simp)
    simp only [inR, Bool.and_eq_true, decide_eq_true_eq] at this
    obtain ⟨m, rfl⟩ := Int.eq_ofNat_of_zero_le this.1
    exact ok a m (by omega))

def Ctr.n1 (f : Nat) (F : Nat → AV) (ok : ∀ (n : Nat), n < 18446744073709551616 → Pure P f [.int .u64 n] (F n)) : Ctr P :=
  Ctr.of f (fun | [.int .u64 n] => some ([inR n], F n.toNat) | _ => none) (by
    intro args ob v h hob
    split at h <;> simp at h
    obtain ⟨rfl, rfl⟩ := h
    rename_i n
    have := hob (inR n) (by simp)
    simp only [inR, Bool.and_eq_true, decide_eq_true_eq] at this
    obtain ⟨m, rfl⟩ := Int.eq_ofNat_of_zero_le this.1
    exact ok m (by omega))

def Ctr.z0 (f : Nat) (v : AV) (ok : Pure P f [] v) : Ctr P :=
  Ctr.of f (fun | [] => some ([], v) | _ => none) (by
    intro args ob v h _
    split at h <;> simp at h
    obtain ⟨_, rfl⟩ := h
    exact ok)
end

/-- Decisions by function and region. -/
def brL : List (Nat × Nat × Bool) → Nat → Nat → St → Option Bool
  | [], _, _, _ => none
  | (f, r, d) :: l, f', r', s => match Nat.beq f f' && Nat.beq r r' with
    | true => some d
    | false => brL l f' r' s
end Go.Proofs.Ytakmgioeldbkcaa
