/- The operations of a symbolic run, one by one: numbers, places, parts. -/
import Derived.Test.YtakmgioeldbkcaaX4
namespace Go.Proofs.Ytakmgioeldbkcaa
open Go Go.RowKit

def iand (k : IntKind) (x y : Int) : Int := k.wrap ((BitVec.ofInt k.bits x &&& BitVec.ofInt k.bits y).toNat : Int)
def ior (k : IntKind) (x y : Int) : Int := k.wrap ((BitVec.ofInt k.bits x ||| BitVec.ofInt k.bits y).toNat : Int)
def ixor (k : IntKind) (x y : Int) : Int := k.wrap ((BitVec.ofInt k.bits x ^^^ BitVec.ofInt k.bits y).toNat : Int)
def iandn (k : IntKind) (x y : Int) : Int := k.wrap ((BitVec.ofInt k.bits x &&& ~~~ BitVec.ofInt k.bits y).toNat : Int)
def ishl (k : IntKind) (x y : Int) : Int := k.wrap (x * 2 ^ (min y.toNat k.bits))
def ishr (k : IntKind) (x y : Int) : Int := x.fdiv (2 ^ (min y.toNat k.bits))

def ifk {α : Type} (k k2 : IntKind) (r : Option α) : Option α :=
  match kindEq k k2 with
  | true => r
  | false => none

/-- An operation on two integers of the kinds 'k' and 'k2'. -/
def arith (sym : Bool) (op : BinOp) (k k2 : IntKind) (x y : Int) : Option (List Bool × AV) :=
  match op with
  | .shl => (chk sym (decide (0 ≤ y))).map fun ob => (ob, .int k (ishl k x y))
  | .shr => (chk sym (decide (0 ≤ y))).map fun ob => (ob, .int k (ishr k x y))
  | .quo => ifk k k2 ((chk sym (!(decide (y = 0)))).map fun ob => (ob, .int k (k.wrap (x.tdiv y))))
  | .rem => ifk k k2 ((chk sym (!(decide (y = 0)))).map fun ob => (ob, .int k (x.tmod y)))
  | .add => ifk k k2 (some ([], .int k (k.wrap (x + y))))
  | .sub => ifk k k2 (some ([], .int k (k.wrap (x - y))))
  | .mul => ifk k k2 (some ([], .int k (k.wrap (x * y))))
  | .and => ifk k k2 (some ([], .int k (iand k x y)))
  | .or => ifk k k2 (some ([], .int k (ior k x y)))
  | .xor => ifk k k2 (some ([], .int k (ixor k x y)))
  | .andNot => ifk k k2 (some ([], .int k (iandn k x y)))
  | .eql => ifk k k2 (some ([], .bool (x == y)))
  | .neq => ifk k k2 (some ([], .bool (x != y)))
  | .lss => ifk k k2 (some ([], .bool (decide (x < y))))
  | .leq => ifk k k2 (some ([], .bool (decide (x ≤ y))))
  | .gtr => ifk k k2 (some ([], .bool (decide (x > y))))
  | .geq => ifk k k2 (some ([], .bool (decide (x ≥ y))))

theorem ifk_some {α : Type} {k k2 : IntKind} {r : Option α} {v : α} (h : ifk k k2 r = some v) : k = k2 ∧ r = some v := by
  unfold ifk at h
  split at h
  · rename_i hk; exact ⟨kindEq_eq hk, h⟩
  · contradiction

section
variable {P : Program} {ρ : Env} {H : Heap} {B : Nat} {W w : World} {ss : List AV} {a : Act} {o : Oper} {E : Eff}

theorem arith_sound {sym : Bool} {op : BinOp} {k k2 : IntKind} {x y : Int} {T : Nat} {ob : List Bool} {v : AV} (h : arith sym op k k2 x y = some (ob, v)) (hob : ∀ b ∈ ob, b = true) :
    ∃ z, (binOp op T (.int k x) (.int k2 y)).run P w = .ok z w ∧ RV ρ v z := by
  cases op <;> simp only [arith] at h
  case shl =>
    cases hc : chk sym (decide (0 ≤ y)) with
    | none => simp [hc] at h
    | some q =>
      simp [hc] at h; obtain ⟨rfl, rfl⟩ := h
      have := chk_sound hc hob
      simp at this
      exact ⟨_, by simp [binOp, Op.shift, show ¬ y < 0 by omega]; rfl, by simp [RV, RV1, RC, ishl]⟩
  case shr =>
    cases hc : chk sym (decide (0 ≤ y)) with
    | none => simp [hc] at h
    | some q =>
      simp [hc] at h; obtain ⟨rfl, rfl⟩ := h
      have := chk_sound hc hob
      simp at this
      exact ⟨_, by simp [binOp, Op.shift, show ¬ y < 0 by omega]; rfl, by simp [RV, RV1, RC, ishr]⟩
  all_goals
    have h2 := ifk_some h
    clear h
    obtain ⟨hk, h⟩ := h2
    subst hk
  case quo =>
    cases hc : chk sym (!(decide (y = 0))) with
    | none => simp [hc] at h
    | some q =>
      simp [hc] at h; obtain ⟨rfl, rfl⟩ := h
      have := chk_sound hc hob
      simp at this
      exact ⟨_, by simp [binOp, Op.intDiv, this]; rfl, by simp [RV, RV1, RC]⟩
  case rem =>
    cases hc : chk sym (!(decide (y = 0))) with
    | none => simp [hc] at h
    | some q =>
      simp [hc] at h; obtain ⟨rfl, rfl⟩ := h
      have := chk_sound hc hob
      simp at this
      exact ⟨_, by simp [binOp, Op.intDiv, this]; rfl, by simp [RV, RV1, RC]⟩
  all_goals
    simp at h
    obtain ⟨rfl, rfl⟩ := h
    refine ⟨_, by simp only [binOp, ne_eq, not_true_eq_false, if_false]; rfl, ?_⟩
    simp only [RV, RV1, RC, iand, ior, ixor, iandn]

/-- A number of 256 bits out of its parts. -/
def inR (x : Int) : Bool := decide (0 ≤ x) && decide (x < 18446744073709551616)
def ofLimbs (a b c d : Int) : BitVec 256 := BitVec.ofNat 256 (a.toNat + 2 ^ 64 * (b.toNat + 2 ^ 64 * (c.toNat + 2 ^ 64 * d.toNat)))
def uOf (sym : Bool) : AV → Option (List Bool × BitVec 256)
  | .u x => some ([], x)
  | .ints .u64 _ [a, b, c, d] => (chk sym (inR a && inR b && inR c && inR d)).map fun ob => (ob, ofLimbs a b c d)
  | _ => none

theorem limb_ofLimbs {a b c d : Int} (ha : inR a = true) (hb : inR b = true) (hc : inR c = true) (hd : inR d = true) :
    limb (ofLimbs a b c d) 0 = a ∧ limb (ofLimbs a b c d) 1 = b ∧ limb (ofLimbs a b c d) 2 = c ∧ limb (ofLimbs a b c d) 3 = d := by
  simp only [inR, Bool.and_eq_true, decide_eq_true_eq] at ha hb hc hd
  obtain ⟨x, rfl⟩ := Int.eq_ofNat_of_zero_le ha.1
  obtain ⟨y, rfl⟩ := Int.eq_ofNat_of_zero_le hb.1
  obtain ⟨z, rfl⟩ := Int.eq_ofNat_of_zero_le hc.1
  obtain ⟨t, rfl⟩ := Int.eq_ofNat_of_zero_le hd.1
  have h : (ofLimbs x y z t).toNat = x + 2 ^ 64 * (y + 2 ^ 64 * (z + 2 ^ 64 * t)) := by
    simp only [ofLimbs, BitVec.toNat_ofNat, Int.toNat_natCast]
    omega
  simp only [limb, h]
  omega

theorem uOf_sound {sym : Bool} {v : AV} {x : BitVec 256} {ob : List Bool} (h : uOf sym v = some (ob, x)) (hob : ∀ b ∈ ob, b = true) {cs : List Value} (hr : RC ρ v cs) : cs = limbs x := by
  unfold uOf at h
  split at h <;> try contradiction
  · simp at h; obtain ⟨rfl, rfl⟩ := h
    simpa only [RC] using hr
  · rename_i n a b c d
    cases hc : chk sym (inR a && inR b && inR c && inR d) with
    | none => simp [hc] at h
    | some q =>
      simp [hc] at h; obtain ⟨rfl, rfl⟩ := h
      have := chk_sound hc hob
      simp only [Bool.and_eq_true] at this
      obtain ⟨⟨⟨h1, h2⟩, h3⟩, h4⟩ := this
      obtain ⟨e1, e2, e3, e4⟩ := limb_ofLimbs h1 h2 h3 h4
      simp only [RC] at hr
      rw [hr.2]
      simp [limbs, e1, e2, e3, e4]

theorem limbs_inj {x y : BitVec 256} (h : limbs x = limbs y) : x = y := by
  simp only [limbs, List.cons.injEq, Value.int.injEq, true_and, and_true] at h
  obtain ⟨h0, h1, h2, h3⟩ := h
  simp only [limb] at h0 h1 h2 h3
  apply BitVec.eq_of_toNat_eq
  have hx := x.isLt
  have hy := y.isLt
  omega

def intsAlike (P : Program) (T : Nat) : Option (Nat × IntKind) :=
  match P.underlying T with
  | some (.array n e) => match P.underlying e with
    | some (.int k) => match Nat.beq (P.cellsOf e) 1 with
      | true => some (n, k)
      | false => none
    | _ => none
  | _ => none

theorem eqItems_ints (w : World) {d e : Nat} {k : IntKind} (he : P.underlying e = some (.int k)) (hs : P.cellsOf e = 1) (l m : List Int) : ∀ (is : List Nat), (∀ i ∈ is, i < l.length ∧ i < m.length) →
    (Op.eqItems (d + 1) e 1 (l.map (Value.int k)).toArray (m.map (Value.int k)).toArray is).run P w = .ok (is.all fun i => l.getD i 0 == m.getD i 0) w
  | [], _ => by simp [Op.eqItems]
  | i :: is, h => by
    obtain ⟨h1, h2⟩ := h i (by simp)
    have ih := eqItems_ints w (d := d) he hs l m is (fun j hj => h j (by simp [hj]))
    have hagg : isAggT P e = false := by simp [isAggT, he]
    have p1 : (part e (l.map (Value.int k)).toArray (i * 1)).run P w = .ok (.int k (l.getD i 0)) w := by
      simp [part, run_isAgg' he, hagg, h1]
    have p2 : (part e (m.map (Value.int k)).toArray (i * 1)).run P w = .ok (.int k (m.getD i 0)) w := by
      simp [part, run_isAgg' he, hagg, h2]
    simp only [Op.eqItems, Sem.run_bind, p1, p2, Result.andThen_ok, run_equalIn_int w d e k k _ _ he, List.all_cons]
    cases hc : (l.getD i 0 == m.getD i 0)
    · simp
    · simp only [Bool.not_true, Bool.false_eq_true, if_false, Bool.true_and]; exact ih

theorem all_range_beq (l m : List Int) (n : Nat) (h1 : l.length = n) (h2 : m.length = n) : ((List.range n).all fun i => l.getD i 0 == m.getD i 0) = (l == m) := by
  rw [Bool.eq_iff_iff]
  simp only [List.all_eq_true, List.mem_range, beq_iff_eq]
  constructor
  · intro h
    apply List.ext_getElem (by omega)
    intro i hi hi'
    have := h i (by omega)
    simpa [List.getD, hi, hi'] using this
  · rintro rfl i _; rfl

theorem equal_ints {T n : Nat} {k : IntKind} (hT : intsAlike P T = some (n, k)) (l m : List Int) (h1 : l.length = n) (h2 : m.length = n) :
    (Op.equal T (.agg (l.map (Value.int k)).toArray) (.agg (m.map (Value.int k)).toArray)).run P w = .ok (l == m) w := by
  unfold intsAlike at hT
  split at hT <;> try contradiction
  rename_i n' e hu
  split at hT <;> try contradiction
  rename_i k' he
  split at hT <;> try contradiction
  rename_i hs
  simp at hT; obtain ⟨rfl, rfl⟩ := hT
  have hs := Nat.eq_of_beq_eq_true hs
  obtain ⟨i, hi⟩ := info_of_underlying he
  rw [Op.equal, show Op.maxDepth = 9998 + 1 + 1 from rfl, run_equalIn_array w (9998 + 1) _ _ hu hi, hs, eqItems_ints w he hs l m _ (fun i hi => by have := List.mem_range.1 hi; omega), all_range_beq l m _ h1 h2]
end
end Go.Proofs.Ytakmgioeldbkcaa
